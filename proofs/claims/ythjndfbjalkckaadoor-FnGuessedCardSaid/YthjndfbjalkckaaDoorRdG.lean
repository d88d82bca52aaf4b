import Derived.Test.YthjndfbjalkckaaDoorRdP
import Derived.Test.YthjndfbjalkckaaDoorDec
import Derived.Test.YthjndfbjalkckaaDoorCgV
import Derived.Test.YthjndfbjalkckaaDoorBitsX
import Derived.Deep.DeepCutAuto
/- The reference's number with a text. Condition: the text has at most 2 ^ 20 bytes. -/
namespace Go.Proofs.YthjndfbjalkckaaDoor
open Go.RowKit
set_option linter.unusedVariables false

/-- A text without its sign. -/
def RelR (s r : List UInt8) : Prop := s = 45 :: r ∨ (r = s ∧ ∀ c t, s = c :: t → c ≠ 45)
theorem gr_form {n : Int} {s r : List UInt8} (h : n.natAbs ≤ 10 ^ 18) (hs : Lib.itoa n = s) (hr : RelR s r) :
    r ≠ [] ∧ (∀ c ∈ r, isDg c = true) ∧ hvL 0 r = n.natAbs ∧ r.length ≤ 19 ∧ n = (if r.length < s.length then -(hvL 0 r : Int) else (hvL 0 r : Int)) := by
  obtain ⟨dg, he, hne, hd, hv, hl⟩ := itoa_form n (by omega)
  rw [hs] at he
  have hrd : r = dg ∧ (n < 0 ↔ r.length < s.length) := by
    by_cases hn : n < 0
    · rw [if_pos hn] at he
      rcases hr with h1 | ⟨h1, h2⟩
      · rw [h1] at he
        injection he with _ e
        exact ⟨e, fun _ => by rw [h1]; simp, fun _ => hn⟩
      · exact absurd rfl (h2 _ _ he)
    · rw [if_neg hn] at he
      rcases hr with h1 | ⟨h1, h2⟩
      · have := isDg_iff.1 (hd 45 (by rw [← he, h1]; exact List.mem_cons_self))
        exact absurd this (by decide)
      · exact ⟨by rw [h1, he], fun h => absurd h hn, fun h => by rw [h1] at h; omega⟩
  obtain ⟨rfl, hi⟩ := hrd
  refine ⟨hne, hd, hv, hl, ?_⟩
  by_cases hn : n < 0
  · rw [if_pos (hi.1 hn), hv]; omega
  · rw [if_neg (fun h => hn (hi.2 h)), hv]; omega
/-- What the reference answers: a number, and whether it is the text's. -/
def GrR (s : ByteArray) (e : Ending) : Prop := ∃ (v : Int) (ok : Bool), e = .returned (.tuple #[.int .i64 v, .bool ok]) ∧ (ok = true → v.natAbs ≤ 10 ^ 18 ∧ Lib.itoa v = s.data.toList) ∧ (ok = false → ∀ n : Int, n.natAbs ≤ 10 ^ 18 → Lib.itoa n ≠ s.data.toList)
theorem GrR.no {s : ByteArray} (h : ∀ n : Int, n.natAbs ≤ 10 ^ 18 → Lib.itoa n ≠ s.data.toList) : GrR s (.returned (.tuple #[.int .i64 0, .bool false])) :=
  ⟨0, false, rfl, (fun h => by cases h), fun _ => h⟩
theorem gr_len {s r : List UInt8} (hr : RelR s r) (h : ¬ (1 ≤ r.length ∧ r.length ≤ 19)) (n : Int) (hn : n.natAbs ≤ 10 ^ 18) : Lib.itoa n ≠ s := by
  intro hs
  obtain ⟨h1, _, _, h2, _⟩ := gr_form hn hs hr
  cases r with
  | nil => exact h1 rfl
  | cons c t => simp at h h2; omega
theorem gr_dig {s r : List UInt8} (hr : RelR s r) {k : Nat} (hk : k < r.length) (h : isDg r[k] = false) (n : Int) (hn : n.natAbs ≤ 10 ^ 18) : Lib.itoa n ≠ s := by
  intro hs
  obtain ⟨_, h1, _⟩ := gr_form hn hs hr
  rw [h1 _ (List.getElem_mem hk)] at h
  cases h
theorem gr_big {s r : List UInt8} (hr : RelR s r) {k : Nat} (hk : k < r.length) (h : 10 ^ 17 < hvL 0 (r.take k)) (n : Int) (hn : n.natAbs ≤ 10 ^ 18) : Lib.itoa n ≠ s := by
  intro hs
  obtain ⟨_, _, h1, _⟩ := gr_form hn hs hr
  have := hvL_take hk
  omega
theorem hvL_snoc {r : List UInt8} {k : Nat} (hk : k < r.length) : hvL 0 (r.take (k + 1)) = hvL 0 (r.take k) * 10 + (r[k].toNat - 48) := by
  rw [List.take_succ_eq_append_getElem hk, hvL_app]
  rfl
theorem by8_at (s : ByteArray) {k : Nat} (h : k < s.data.toList.length) : by8 s k = s.data.toList[k] := by
  unfold by8
  rw [List.getD, List.getElem?_eq_getElem h]
  rfl
theorem size_list (s : ByteArray) : s.data.toList.length = s.size := by simp
set_option maxRecDepth 20000 in
set_option maxHeartbeats 3200000 in
theorem l01Great_any (s : ByteArray) (w : World) (hs : s.size ≤ 1048576) : Calls Tryd.prog 62 #[.string s] w fun e w' => GrR s e ∧ Below w.heap.size w w' := by
  have hsz := size_list s
  by_cases h0 : s.size = 0
  · have HF := Lib.hid (gr_len (s := s.data.toList) (r := s.data.toList) (Or.inr ⟨rfl, fun c t h => by rw [h] at hsz; simp at hsz; omega⟩) (by omega))
    have hz : (s.size : Int) = 0 := by omega
    clear h0 hsz
    go_enter Tryd.func62, Tryd.ntmps62
    go_wp2_with fail
    go_ret2
    exact ⟨GrR.no HF.out, Below.refl _ _⟩
  · have hz : (0 : Int) < (s.size : Int) := by omega
    have hg0 := get_by8 s 0 (by omega)
    have hb0 := by8_at s (k := 0) (by omega)
    by_cases h45 : by8 s 0 = 45
    · obtain ⟨r, hr⟩ : ∃ r, s.extract 1 s.size = r := ⟨_, rfl⟩
      have hrs : r.size = s.size - 1 := by rw [← hr, ByteArray.size_extract]; omega
      have HRR := Lib.hid (show RelR s.data.toList r.data.toList by
        left
        have e : r.data.toList = s.data.toList.drop 1 := by rw [← hr]; exact Lib.extract_to_end s 1
        rw [e, ← h45, hb0]
        exact (show List.drop 0 s.data.toList = _ from List.drop_eq_getElem_cons (i := 0) (by omega)))
      have hrl : (r.size : Int) < (s.size : Int) := by omega
      have hgx : ((s[0].toNat : Nat) : Int) = 45 := by rw [hg0, h45]; rfl
      have HE := Lib.hid hr
      have hrz := size_list r
      have hr0 : (0 : Int) ≤ (r.size : Int) := by omega
      clear hr hg0 hb0 h45 h0
      by_cases hl : 1 ≤ r.size ∧ r.size ≤ 19
      · have hl1 : ¬ (r.size : Int) < 1 := by omega
        have hl2 : ¬ (19 : Int) < (r.size : Int) := by omega
        have hl3 := hl.2
        clear hl
        go_enter Tryd.func62, Tryd.ntmps62
        go_upto_region 4 with fail
        rw [HE.out]
        go_wp2_with fail
        go_loop [6, 5] (fun i v => ∃ (k N : Nat), k ≤ r.size ∧ i = .int .i64 k ∧ v = .int .i64 N ∧ N ≤ 1000000000000000009 ∧ Hid (N = hvL 0 (r.data.toList.take k))) (fun i _ => r.size - (intOf i).toNat)
        case atStart => exact ⟨0, 0, Nat.zero_le _, rfl, rfl, by omega, Lib.hid rfl⟩
        case round =>
          obtain ⟨k, N, hk, rfl, rfl, hN, HN⟩ := hrel
          by_cases hlt : k < r.size
          · have hki : (k : Int) < (r.size : Int) := by omega
            have hk0 : (0 : Int) ≤ (k : Int) := by omega
            have hgk := get_by8 r k hlt
            have hbk := by8_at r (k := k) (by omega)
            obtain ⟨bv, hbv⟩ : ∃ bv : Nat, (by8 r k).toNat = bv := ⟨_, rfl⟩
            have hg : ((r[k].toNat : Nat) : Int) = (bv : Int) := by rw [hgk, hbv]
            have hb8 : bv ≤ 255 := by rw [← hbv]; have := (by8 r k).toNat_lt; omega
            have HDG := Lib.hid (show bv < 48 ∨ 57 < bv → isDg (r.data.toList[k]'(by omega)) = false from fun h => by
              rw [← hbk]; unfold isDg; rw [hbv]; simp; omega)
            have HSN := Lib.hid (show hvL 0 (r.data.toList.take (k + 1)) = N * 10 + (bv - 48) by rw [hvL_snoc (by omega), ← hbk, hbv, ← HN.out])
            clear hgk hbk hbv
            by_cases hd1 : bv < 48
            · have HF := Lib.hid (gr_dig HRR.out (by omega) (HDG.out (Or.inl hd1)))
              have hc : (bv : Int) < 48 := by omega
              clear hd1
              go_wp2_with fail
              go_ret2
              exact ⟨GrR.no HF.out, Below.refl _ _⟩
            · have hc1 : ¬ (bv : Int) < 48 := by omega
              by_cases hd2 : 57 < bv
              · have HF := Lib.hid (gr_dig HRR.out (by omega) (HDG.out (Or.inr hd2)))
                have hc : (57 : Int) < (bv : Int) := by omega
                clear hd1 hd2
                go_wp2_with fail
                go_ret2
                exact ⟨GrR.no HF.out, Below.refl _ _⟩
              · have hc2 : ¬ (57 : Int) < (bv : Int) := by omega
                by_cases hbig : 10 ^ 17 < N
                · have HF := Lib.hid (gr_big HRR.out (k := k) (by omega) (by rw [← HN.out]; exact hbig))
                  have hc : (100000000000000000 : Int) < (N : Int) := by omega
                  clear hd1 hd2 hbig
                  go_wp2_with fail
                  go_ret2
                  exact ⟨GrR.no HF.out, Below.refl _ _⟩
                · have hc3 : ¬ (100000000000000000 : Int) < (N : Int) := by omega
                  have hx1 : IntKind.u8.wrap ((bv : Int) - 48) = (bv : Int) - 48 := IntWalk.u8_in _ (by omega)
                  have hx2 : IntKind.i64.wrap (10 * (N : Int)) = 10 * (N : Int) := IntWalk.i64_in _ (by omega)
                  have hx3 : IntKind.i64.wrap ((bv : Int) - 48) = (bv : Int) - 48 := IntWalk.i64_in _ (by omega)
                  have hx4 : IntKind.i64.wrap (10 * (N : Int) + ((bv : Int) - 48)) = 10 * (N : Int) + ((bv : Int) - 48) := IntWalk.i64_in _ (by omega)
                  have HV := Lib.hid (show (10 * (N : Int) + ((bv : Int) - 48)) = ((N * 10 + (bv - 48) : Nat) : Int) by omega)
                  have HN2 := Lib.hid (show N * 10 + (bv - 48) ≤ 1000000000000000009 by omega)
                  clear hd1 hd2 hbig
                  go_wp2_with fail
                  go_round
                  case rel => exact ⟨k + 1, N * 10 + (bv - 48), by omega, by go_num, by rw [HV.out], HN2.out, Lib.hid HSN.out.symm⟩
                  case measure => simp [intOf]; omega
          · obtain rfl : k = r.size := by omega
            have hki : ¬ (r.size : Int) < (r.size : Int) := by omega
            have HNN := Lib.hid (show N = hvL 0 r.data.toList by
              have := HN.out
              rw [List.take_of_length_le (by omega)] at this
              exact this)
            clear HN
            have hwn : IntKind.i64.wrap (-(N : Int)) = -(N : Int) := IntWalk.i64_in _ (by omega)
            have HFM := Lib.hid (show ∀ n : Int, n.natAbs ≤ 10 ^ 18 → Lib.itoa n = s.data.toList → n = (-(N : Int)) by
              intro n hn h
              obtain ⟨_, _, _, _, e⟩ := gr_form hn h HRR.out
              rw [if_pos (by omega), ← HNN.out] at e
              exact e)
            obtain ⟨v, hv⟩ : ∃ v, (-(N : Int)) = v := ⟨_, rfl⟩
            have hvb : -1000000000000000009 ≤ v ∧ v ≤ 1000000000000000009 := by omega
            have HVV := Lib.hid hv
            cases hir : inR v (-1000000000000000000) 1000000000000000000 with
            | false =>
              have HI := Lib.hid hir
              have HF := Lib.hid (show ∀ n : Int, n.natAbs ≤ 10 ^ 18 → Lib.itoa n ≠ s.data.toList by
                intro n hn h
                have e := HFM.out n hn h
                rw [hv] at e
                subst e
                simp only [inR, Bool.and_eq_false_iff, decide_eq_false_iff_not] at hir
                omega)
              clear hir hv hvb
              go_wp2_with fail
              rw [HVV.out]
              refine (l00InV _ _ _ _).mono ?_
              rintro e w' ⟨rfl, rfl⟩
              rw [HI.out]
              go_wp2_with fail
              go_ret2
              exact ⟨⟨_, _, rfl, (fun h => by cases h), fun _ => HF.out⟩, Below.refl _ _⟩
            | true =>
              have HI := Lib.hid hir
              have HB := Lib.hid (show v.natAbs ≤ 10 ^ 18 by
                simp only [inR, Bool.and_eq_true, decide_eq_true_eq] at hir
                omega)
              have HD := Lib.hid (fun w => l01Dec_any v w (by omega) (by omega))
              have HQ := Lib.hid (show ((itB v).toList == s.toList) = decide (Lib.itoa v = s.data.toList) by
                rw [Lib.toList_data, Lib.toList_data]
                exact Bool.eq_iff_iff.2 (by rw [beq_iff_eq, decide_eq_true_iff]; exact Iff.rfl))
              have HFV := Lib.hid (show ∀ n : Int, n.natAbs ≤ 10 ^ 18 → Lib.itoa n = s.data.toList → n = v by rw [← hv]; exact HFM.out)
              clear hir hv hvb HFM
              go_wp2_with fail
              rw [HVV.out]
              refine (l00InV _ _ _ _).mono ?_
              rintro e w' ⟨rfl, rfl⟩
              rw [HI.out]
              go_wp2_with fail
              refine (HD.out _).mono ?_
              rintro e w2 ⟨rfl, hb⟩
              have HB2 := Lib.hid hb
              clear hb
              go_wp2_with fail
              go_ret2
              refine ⟨⟨v, _, rfl, fun h => ⟨HB.out, ?_⟩, fun h n hn e => ?_⟩, HB2.out⟩
              · rw [HQ.out] at h
                exact of_decide_eq_true h
              · rw [HQ.out] at h
                have e2 := HFV.out n hn e
                subst e2
                exact of_decide_eq_false h e
      · have HF := Lib.hid (gr_len HRR.out (by omega))
        by_cases hl1 : r.size < 1
        · have hc : (r.size : Int) < 1 := by omega
          clear hl hl1
          go_enter Tryd.func62, Tryd.ntmps62
          go_upto_region 4 with fail
          rw [HE.out]
          go_wp2_with fail
          go_ret2
          exact ⟨GrR.no HF.out, Below.refl _ _⟩
        · have hc1 : ¬ (r.size : Int) < 1 := by omega
          have hc2 : (19 : Int) < (r.size : Int) := by omega
          clear hl hl1
          go_enter Tryd.func62, Tryd.ntmps62
          go_upto_region 4 with fail
          rw [HE.out]
          go_wp2_with fail
          go_ret2
          exact ⟨GrR.no HF.out, Below.refl _ _⟩
    · obtain ⟨cv, hcv⟩ : ∃ cv : Nat, (by8 s 0).toNat = cv := ⟨_, rfl⟩
      have HRR := Lib.hid (show RelR s.data.toList s.data.toList by
        right
        refine ⟨rfl, fun c t e e2 => h45 ?_⟩
        rw [hb0]
        simp only [e, List.getElem_cons_zero, e2])
      have hgx : ((s[0].toNat : Nat) : Int) = (cv : Int) := by rw [hg0, hcv]
      have hcn : ¬ (cv : Int) = 45 := by
        intro h
        apply h45
        apply UInt8.toNat_inj.1
        rw [hcv]
        show cv = 45
        omega
      have hrz := hsz
      have hrl : ¬ (s.size : Int) < (s.size : Int) := by omega
      have hr0 : (0 : Int) ≤ (s.size : Int) := by omega
      clear hg0 hb0 h45 h0 hcv
      by_cases hl : 1 ≤ s.size ∧ s.size ≤ 19
      · have hl1 : ¬ (s.size : Int) < 1 := by omega
        have hl2 : ¬ (19 : Int) < (s.size : Int) := by omega
        have hl3 := hl.2
        clear hl
        go_enter Tryd.func62, Tryd.ntmps62
        go_wp2_with fail
        go_loop [6, 5] (fun i v => ∃ (k N : Nat), k ≤ s.size ∧ i = .int .i64 k ∧ v = .int .i64 N ∧ N ≤ 1000000000000000009 ∧ Hid (N = hvL 0 (s.data.toList.take k))) (fun i _ => s.size - (intOf i).toNat)
        case atStart => exact ⟨0, 0, Nat.zero_le _, rfl, rfl, by omega, Lib.hid rfl⟩
        case round =>
          obtain ⟨k, N, hk, rfl, rfl, hN, HN⟩ := hrel
          by_cases hlt : k < s.size
          · have hki : (k : Int) < (s.size : Int) := by omega
            have hk0 : (0 : Int) ≤ (k : Int) := by omega
            have hgk := get_by8 s k hlt
            have hbk := by8_at s (k := k) (by omega)
            obtain ⟨bv, hbv⟩ : ∃ bv : Nat, (by8 s k).toNat = bv := ⟨_, rfl⟩
            have hg : ((s[k].toNat : Nat) : Int) = (bv : Int) := by rw [hgk, hbv]
            have hb8 : bv ≤ 255 := by rw [← hbv]; have := (by8 s k).toNat_lt; omega
            have HDG := Lib.hid (show bv < 48 ∨ 57 < bv → isDg (s.data.toList[k]'(by omega)) = false from fun h => by
              rw [← hbk]; unfold isDg; rw [hbv]; simp; omega)
            have HSN := Lib.hid (show hvL 0 (s.data.toList.take (k + 1)) = N * 10 + (bv - 48) by rw [hvL_snoc (by omega), ← hbk, hbv, ← HN.out])
            clear hgk hbk hbv
            by_cases hd1 : bv < 48
            · have HF := Lib.hid (gr_dig HRR.out (by omega) (HDG.out (Or.inl hd1)))
              have hc : (bv : Int) < 48 := by omega
              clear hd1
              go_wp2_with fail
              go_ret2
              exact ⟨GrR.no HF.out, Below.refl _ _⟩
            · have hc1 : ¬ (bv : Int) < 48 := by omega
              by_cases hd2 : 57 < bv
              · have HF := Lib.hid (gr_dig HRR.out (by omega) (HDG.out (Or.inr hd2)))
                have hc : (57 : Int) < (bv : Int) := by omega
                clear hd1 hd2
                go_wp2_with fail
                go_ret2
                exact ⟨GrR.no HF.out, Below.refl _ _⟩
              · have hc2 : ¬ (57 : Int) < (bv : Int) := by omega
                by_cases hbig : 10 ^ 17 < N
                · have HF := Lib.hid (gr_big HRR.out (k := k) (by omega) (by rw [← HN.out]; exact hbig))
                  have hc : (100000000000000000 : Int) < (N : Int) := by omega
                  clear hd1 hd2 hbig
                  go_wp2_with fail
                  go_ret2
                  exact ⟨GrR.no HF.out, Below.refl _ _⟩
                · have hc3 : ¬ (100000000000000000 : Int) < (N : Int) := by omega
                  have hx1 : IntKind.u8.wrap ((bv : Int) - 48) = (bv : Int) - 48 := IntWalk.u8_in _ (by omega)
                  have hx2 : IntKind.i64.wrap (10 * (N : Int)) = 10 * (N : Int) := IntWalk.i64_in _ (by omega)
                  have hx3 : IntKind.i64.wrap ((bv : Int) - 48) = (bv : Int) - 48 := IntWalk.i64_in _ (by omega)
                  have hx4 : IntKind.i64.wrap (10 * (N : Int) + ((bv : Int) - 48)) = 10 * (N : Int) + ((bv : Int) - 48) := IntWalk.i64_in _ (by omega)
                  have HV := Lib.hid (show (10 * (N : Int) + ((bv : Int) - 48)) = ((N * 10 + (bv - 48) : Nat) : Int) by omega)
                  have HN2 := Lib.hid (show N * 10 + (bv - 48) ≤ 1000000000000000009 by omega)
                  clear hd1 hd2 hbig
                  go_wp2_with fail
                  go_round
                  case rel => exact ⟨k + 1, N * 10 + (bv - 48), by omega, by go_num, by rw [HV.out], HN2.out, Lib.hid HSN.out.symm⟩
                  case measure => simp [intOf]; omega
          · obtain rfl : k = s.size := by omega
            have hki : ¬ (s.size : Int) < (s.size : Int) := by omega
            have HNN := Lib.hid (show N = hvL 0 s.data.toList by
              have := HN.out
              rw [List.take_of_length_le (by omega)] at this
              exact this)
            clear HN
            have hwn : IntKind.i64.wrap (-(N : Int)) = -(N : Int) := IntWalk.i64_in _ (by omega)
            have HFM := Lib.hid (show ∀ n : Int, n.natAbs ≤ 10 ^ 18 → Lib.itoa n = s.data.toList → n = (N : Int) by
              intro n hn h
              obtain ⟨_, _, _, _, e⟩ := gr_form hn h HRR.out
              rw [if_neg (by omega), ← HNN.out] at e
              exact e)
            obtain ⟨v, hv⟩ : ∃ v, (N : Int) = v := ⟨_, rfl⟩
            have hvb : -1000000000000000009 ≤ v ∧ v ≤ 1000000000000000009 := by omega
            have HVV := Lib.hid hv
            cases hir : inR v (-1000000000000000000) 1000000000000000000 with
            | false =>
              have HI := Lib.hid hir
              have HF := Lib.hid (show ∀ n : Int, n.natAbs ≤ 10 ^ 18 → Lib.itoa n ≠ s.data.toList by
                intro n hn h
                have e := HFM.out n hn h
                rw [hv] at e
                subst e
                simp only [inR, Bool.and_eq_false_iff, decide_eq_false_iff_not] at hir
                omega)
              clear hir hv hvb
              go_wp2_with fail
              rw [HVV.out]
              refine (l00InV _ _ _ _).mono ?_
              rintro e w' ⟨rfl, rfl⟩
              rw [HI.out]
              go_wp2_with fail
              go_ret2
              exact ⟨⟨_, _, rfl, (fun h => by cases h), fun _ => HF.out⟩, Below.refl _ _⟩
            | true =>
              have HI := Lib.hid hir
              have HB := Lib.hid (show v.natAbs ≤ 10 ^ 18 by
                simp only [inR, Bool.and_eq_true, decide_eq_true_eq] at hir
                omega)
              have HD := Lib.hid (fun w => l01Dec_any v w (by omega) (by omega))
              have HQ := Lib.hid (show ((itB v).toList == s.toList) = decide (Lib.itoa v = s.data.toList) by
                rw [Lib.toList_data, Lib.toList_data]
                exact Bool.eq_iff_iff.2 (by rw [beq_iff_eq, decide_eq_true_iff]; exact Iff.rfl))
              have HFV := Lib.hid (show ∀ n : Int, n.natAbs ≤ 10 ^ 18 → Lib.itoa n = s.data.toList → n = v by rw [← hv]; exact HFM.out)
              clear hir hv hvb HFM
              go_wp2_with fail
              rw [HVV.out]
              refine (l00InV _ _ _ _).mono ?_
              rintro e w' ⟨rfl, rfl⟩
              rw [HI.out]
              go_wp2_with fail
              refine (HD.out _).mono ?_
              rintro e w2 ⟨rfl, hb⟩
              have HB2 := Lib.hid hb
              clear hb
              go_wp2_with fail
              go_ret2
              refine ⟨⟨v, _, rfl, fun h => ⟨HB.out, ?_⟩, fun h n hn e => ?_⟩, HB2.out⟩
              · rw [HQ.out] at h
                exact of_decide_eq_true h
              · rw [HQ.out] at h
                have e2 := HFV.out n hn e
                subst e2
                exact of_decide_eq_false h e
      · have HF := Lib.hid (gr_len HRR.out (by omega))
        by_cases hl1 : s.size < 1
        · have hc : (s.size : Int) < 1 := by omega
          exact absurd hl1 (by omega)
        · have hc1 : ¬ (s.size : Int) < 1 := by omega
          have hc2 : (19 : Int) < (s.size : Int) := by omega
          clear hl hl1
          go_enter Tryd.func62, Tryd.ntmps62
          go_wp2_with fail
          go_ret2
          exact ⟨GrR.no HF.out, Below.refl _ _⟩
/-- A text's number, and whether there is one. -/
def optV (o : Option Int) : Value := match o with
  | none => .tuple #[.int .i64 0, .bool false]
  | some n => .tuple #[.int .i64 n, .bool true]
set_option maxRecDepth 20000 in
set_option maxHeartbeats 800000 in
theorem l01Value_any (s : ByteArray) (w : World) (hs : s.size ≤ 1048576) : Calls Tryd.prog 54 #[.string s] w fun e w' => e = .returned (optV (rdL s.data.toList)) ∧ Below w.heap.size w w' := by
  have HG := Lib.hid (l01Great_any s w hs)
  go_enter Tryd.func54, Tryd.ntmps54
  go_wp2_with fail
  refine HG.out.mono ?_
  rintro e w1 ⟨⟨v, ok, rfl, ht, hf⟩, hb⟩
  have HB := Lib.hid hb
  clear hb HG
  cases ok with
  | false =>
    have HF := Lib.hid (show rdL s.data.toList = none from rdL_none fun n hn => hf rfl n (by omega))
    clear ht hf
    go_wp2_with fail
    go_ret2
    exact ⟨by rw [HF.out]; rfl, HB.out⟩
  | true =>
    obtain ⟨hv, he⟩ := ht rfl
    cases hr : inR v (-1000000000000000) 1000000000000000 with
    | false =>
      have HF := Lib.hid (show rdL s.data.toList = none by
        refine rdL_none fun n hn h => ?_
        have h1 := parse_itoa n (by omega)
        rw [h, ← he, parse_itoa v hv] at h1
        injection h1 with h2
        subst h2
        simp only [inR, Bool.and_eq_false_iff, decide_eq_false_iff_not] at hr
        omega)
      have HR := Lib.hid hr
      clear ht hf hv he hr
      go_wp2_with fail
      refine (l00InV _ _ _ _).mono ?_
      rintro e w' ⟨rfl, rfl⟩
      rw [HR.out]
      go_wp2_with fail
      go_ret2
      exact ⟨by rw [HF.out]; rfl, HB.out⟩
    | true =>
      have HF := Lib.hid (show rdL s.data.toList = some v by
        rw [← he]
        apply rdL_of
        simp only [inR, Bool.and_eq_true, decide_eq_true_eq] at hr
        omega)
      have HR := Lib.hid hr
      clear ht hf hv he hr
      go_wp2_with fail
      refine (l00InV _ _ _ _).mono ?_
      rintro e w' ⟨rfl, rfl⟩
      rw [HR.out]
      go_wp2_with fail
      go_ret2
      exact ⟨by rw [HF.out]; rfl, HB.out⟩
end Go.Proofs.YthjndfbjalkckaaDoor
