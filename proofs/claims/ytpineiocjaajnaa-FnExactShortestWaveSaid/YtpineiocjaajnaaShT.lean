import Derived.Test.YtpineiocjaajnaaShR
/- The reference's choice of the best list. Conditions: few and small numbers. -/
namespace Go.Proofs.Ytpineiocjaajnaa
open Go.RowKit
set_option linter.unusedVariables false

theorem ptL_idx {a m : Int} : ∀ {xs : List Int} {i : Nat}, ptL a m xs → i + 1 < xs.length → (xs.getD (i + 1) 0 - a * xs.getD i 0) % m = 0
  | [], i, _, h => by simp at h
  | [x], i, _, h => by simp at h
  | x :: y :: l, 0, hp, _ => by simpa using hp.1 y l rfl
  | x :: y :: l, i + 1, hp, h => by
    have := ptL_idx (xs := y :: l) (i := i) hp.2 (by simpa using h)
    simpa using this
set_option maxHeartbeats 800000 in
theorem holds_any (b3 : Nat) (m a ad : Int) (ax : Option Addr) (len cap : Nat) (xs : List Int) (w : World) (hm : 0 < m ∧ m ≤ 1000000) (ha : 0 ≤ a ∧ a < m) (hb : G3 w b3 m a ad) (hx : IsInts w ax len xs) (hs : SmL xs) (hp : ptL a m xs) :
    Calls Try.prog 55 #[.pointer (some ⟨b3, 0, none⟩), .slice ax len cap] w fun e w' => e = .returned (.bool true) ∧ Below w.heap.size w w' := by
  have hxl := hx.length
  have HX := Lib.hid hx
  have HSM := Lib.hid hs
  have HP := Lib.hid hp
  have HB3 := Lib.hid hb
  have hl4 : len ≤ 4 := by rw [← hxl]; exact hs.1
  have m0 : ¬ m = 0 := by omega
  have m1 : ¬ m = -1 := by omega
  have mb : (m == 0) = false := by simpa using m0
  clear hx hs hp hb
  go_enter Try.func55, Try.ntmps55
  go_wp2
  go_loopw [5] (fun i wr => ∃ k : Nat, 1 ≤ k ∧ k ≤ len + 1 ∧ i = .int .i64 (k : Nat) ∧ Hid (Below w.heap.size w wr)) (fun i _ => len + 1 - (intOf i).toNat)
  case atStart => exact ⟨1, by omega, by omega, rfl, Lib.hid (Below.refl _ _)⟩
  case round =>
    obtain ⟨k, hk1, hk, rfl, HB⟩ := hrel
    by_cases hlt : k < len
    · have hki : (k : Int) < (len : Int) := by omega
      have hk0 : (0 : Int) ≤ (k : Int) := by omega
      obtain ⟨j, rfl⟩ : ∃ j, k = j + 1 := ⟨k - 1, by omega⟩
      obtain ⟨b, off, rfl, cc⟩ := (HX.out.below HB.out).at hlt
      obtain ⟨b', off', e5, dd⟩ := (HX.out.below HB.out).at (show j < len by omega)
      simp only [Option.some.injEq, Addr.mk.injEq] at e5
      obtain ⟨rfl, rfl, _⟩ := e5
      have hid := ptL_idx HP.out (i := j) (by omega)
      have s1 := HSM.out.2 (j + 1)
      have s2 := HSM.out.2 j
      obtain ⟨z, hz⟩ : ∃ x, xs.getD (j + 1) 0 = x := ⟨_, rfl⟩
      obtain ⟨y, hy⟩ : ∃ x, xs.getD j 0 = x := ⟨_, rfl⟩
      rw [hz] at cc s1 hid
      rw [hy] at dd s2 hid
      have hay : -1000000000000 ≤ a * y ∧ a * y ≤ 1000000000000 := by
        have h1 : (a * y).natAbs ≤ 1000000 * 1000000 := by rw [Int.natAbs_mul]; exact Nat.mul_le_mul (by omega) (by omega)
        omega
      obtain ⟨p, hp⟩ : ∃ p, a * y = p := ⟨_, rfl⟩
      rw [hp] at hay hid
      have hpw : IntKind.i64.wrap p = p := IntWalk.i64_in _ (by omega)
      have hdw : IntKind.i64.wrap (z - p) = z - p := IntWalk.i64_in _ (by omega)
      have hrt : (z - p).tmod m = 0 := Int.tmod_eq_zero_of_dvd (Int.dvd_of_emod_eq_zero hid)
      have hj1 : IntKind.i64.wrap (((j + 1 : Nat) : Int) - 1) = (j : Int) := by rw [IntWalk.i64_in _ (by omega)]; omega
      have hj0 : (0 : Int) ≤ (j : Int) := by omega
      have hjl : (j : Int) < (len : Int) := by omega
      obtain ⟨y0, y1, y2, y3⟩ := HB3.out.all HB.out
      obtain ⟨k, hkk⟩ : ∃ k, j + 1 = k := ⟨_, rfl⟩
      rw [hkk] at cc hj1 hki hk0 ⊢
      clear hz hy hid hkk
      go_wp2_with fail
      go_quiet (fail)
      go_wp2_with fail
      go_roundw
      case rel => exact ⟨k + 1, by omega, by omega, by go_num, Lib.hid (bthen HB.out (drewN_below _ _))⟩
      case measure => simp [intOf] <;> omega
    · have hki : ¬ (k : Int) < (len : Int) := by omega
      go_wp2_with fail
      go_ret
      exact ⟨rfl, HB.out⟩
theorem zerL_of {xs : List Int} (h : ∀ j, j < xs.length → xs.getD j 0 = 0) : zerL xs = true := by
  induction xs with
  | nil => rfl
  | cons x l ih =>
    have h0 := h 0 (by simp)
    simp at h0
    subst h0
    have := ih (fun j hj => by have := h (j + 1) (by simpa using hj); simpa using this)
    simpa [zerL] using this
theorem zerL_not {xs : List Int} {i : Nat} (h0 : xs.getD i 0 ≠ 0) : zerL xs = false := by
  cases h : zerL xs with
  | false => rfl
  | true =>
    exfalso
    by_cases hi : i < xs.length
    · unfold zerL at h
      rw [List.all_eq_true] at h
      have := h (xs.getD i 0) (by rw [getD_eq _ _ hi]; exact List.getElem_mem _)
      simp at this
      exact h0 (by simpa using this)
    · exact h0 (by rw [List.getD, List.getElem?_eq_none (by omega)]; rfl)
def ngL (xs : List Int) (k : Nat) : List Int := (xs.take k).map (- ·)
theorem ngL_push {xs : List Int} {k : Nat} (h : k < xs.length) : ngL xs k ++ [-(xs.getD k 0)] = ngL xs (k + 1) := by
  unfold ngL
  rw [take_snoc _ _ h, List.map_append]; rfl
set_option maxRecDepth 20000 in
set_option maxHeartbeats 800000 in
theorem sign_any (a : Option Addr) (cap : Nat) (xs : List Int) (w : World) (hx : IsInts w a xs.length xs) (hs : SmL xs) : Calls Try.prog 89 #[.slice a xs.length cap] w (RdL w (sgnL xs)) := by
  have HX := Lib.hid hx
  have HSM := Lib.hid hs
  obtain ⟨len, hlen⟩ : ∃ n, xs.length = n := ⟨_, rfl⟩
  have hl4 : len ≤ 4 := by rw [← hlen]; exact hs.1
  rw [hlen] at HX ⊢
  have HL := Lib.hid hlen
  have HSG := Lib.hid (sgnL_len xs)
  clear hx hs hlen
  go_enter Try.func89, Try.ntmps89
  go_wp2
  go_loopw [3] (fun i wr => ∃ k : Nat, k ≤ len ∧ i = .int .i64 (k : Nat) ∧ wr = w ∧ Hid (∀ j, j < k → xs.getD j 0 = 0)) (fun i _ => len - (intOf i).toNat)
  case atStart => exact ⟨0, Nat.zero_le _, rfl, rfl, Lib.hid (fun j hj => absurd hj (Nat.not_lt_zero j))⟩
  case round =>
    obtain ⟨k, hk, rfl, rfl, HZ⟩ := hrel
    by_cases hlt : k < len
    · have hki : (k : Int) < (len : Int) := by omega
      have hk0 : (0 : Int) ≤ (k : Int) := by omega
      obtain ⟨b, off, rfl, cc⟩ := HX.out.at hlt
      have HPS := Lib.hid (fun h0 => posL_some (xs := xs) (i := k) (by have := HL.out; omega) h0 HZ.out)
      have HZN := Lib.hid (fun h0 => zerL_not (xs := xs) (i := k) h0)
      obtain ⟨x, hx⟩ : ∃ x, xs.getD k 0 = x := ⟨_, rfl⟩
      rw [hx] at cc HPS HZN
      have HE := Lib.hid hx
      clear hx
      rcases Int.lt_trichotomy 0 x with h | h | h
      · have HF := Lib.hid (show sgnL xs = xs from sgnL_pos (by rw [HPS.out (by omega), decide_eq_true h]))
        go_wp2_with fail
        go_ret
        refine ⟨some ⟨b, off, none⟩, cap, ?_, ?_, Below.refl _ _⟩
        · rw [HF.out, HL.out]; rfl
        · rw [HF.out, HL.out]; exact HX.out
      · subst h
        have HZ2 := Lib.hid (show ∀ j, j < k + 1 → xs.getD j 0 = 0 from fun j hj => by
          by_cases h : j = k
          · rw [h]; exact HE.out
          · exact HZ.out j (by omega))
        go_wp2_with fail
        go_roundw
        case rel => exact ⟨k + 1, by omega, by go_num, trivial, HZ2⟩
        case measure => simp [intOf] <;> omega
      · have h2 : ¬ 0 < x := by omega
        have HF := Lib.hid (show sgnL xs = ngL xs len by
          unfold sgnL
          rw [HPS.out (by omega), decide_eq_false h2, HZN.out (by omega)]
          unfold ngL
          rw [List.take_of_length_le (by have := HL.out; omega)]; rfl)
        have HG0 := Lib.hid (show GrowAt wr (wr.alloc (.cells #[] 2)) 2 (.slice (some ⟨wr.heap.size, 0, none⟩) 0 0) 0 ((ngL xs 0).map (Value.int .i64)) from GrowAt.start wr 2)
        obtain ⟨w0, hw0⟩ : ∃ x, x = wr := ⟨_, rfl⟩
        subst hw0
        go_wp2_with fail
        go_loopw [5, 4] (fun i v wr => ∃ (j : Nat) (s : Option Addr) (c : Nat), j ≤ len ∧ i = .int .i64 (j : Nat) ∧ v = .slice s j c ∧ Hid (GrowAt w0 wr 2 (.slice s j c) j ((ngL xs j).map (Value.int .i64)))) (fun i _ _ => len - (intOf i).toNat)
        case atStart => exact ⟨0, _, _, Nat.zero_le _, rfl, rfl, HG0⟩
        case round =>
          clear HG0
          obtain ⟨j, s, c, hj, rfl, rfl, HG⟩ := hrel
          by_cases hjl : j < len
          · have hji : (j : Int) < (len : Int) := by omega
            have hj0 : (0 : Int) ≤ (j : Int) := by omega
            obtain ⟨b', off', e5, dd⟩ := (HX.out.below HG.out.2).at hjl
            simp only [Option.some.injEq, Addr.mk.injEq] at e5
            obtain ⟨rfl, rfl, _⟩ := e5
            have HP := Lib.hid (ngL_push (xs := xs) (k := j) (by have := HL.out; omega))
            have hzb := HSM.out.2 j
            obtain ⟨z, hz⟩ : ∃ z, xs.getD j 0 = z := ⟨_, rfl⟩
            rw [hz] at dd HP hzb
            have hzw : IntKind.i64.wrap (-z) = -z := IntWalk.i64_in _ (by omega)
            clear hz
            have HOW := Lib.hid (HG.out.alloc (.cells #[.int .i64 (-z)] 2)).1
            have hsz := HG.out.2.size
            go_wp2_with (at_builtin; refine wpList_ap1 rfl (.tmp 30) (.tmp 36) 24 rfl w0.heap.size 2 (.int .i64 0) 8 Try.underlying24 Try.infoI rfl _ j _ rfl HOW.out _ (.int .i64 (-z)) rfl (by go_simp) rfl (by omega) (by omega) (by simp only [alloc_size]; omega) ?_)
            intro v' w6 hown hgrow _
            obtain ⟨a6, c6, rfl⟩ := own_form hown
            have HG3 := Lib.hid (show GrowAt w0 w6 2 (.slice a6 (j + 1) c6) (j + 1) ((ngL xs (j + 1)).map (Value.int .i64)) by
              rw [← HP.out, List.map_append]
              exact (HG.out.alloc _).push hown hgrow)
            clear hown hgrow HOW HG
            go_wp2_with fail
            go_roundw
            case rel => exact ⟨j + 1, a6, c6, by omega, by go_num, rfl, HG3⟩
            case measure => simp [intOf] <;> omega
          · obtain rfl : j = len := by omega
            have hji : ¬ (j : Int) < (j : Int) := by omega
            go_wp2_with fail
            go_ret
            refine ⟨s, c, ?_, ?_, HG.out.2⟩
            · rw [HSG.out, HL.out]; rfl
            · rw [HSG.out, HL.out, HF.out]; exact IsInts.of_own HG.out.1
    · obtain rfl : k = len := by omega
      have hki : ¬ (k : Int) < (k : Int) := by omega
      have HF := Lib.hid (show sgnL xs = xs by unfold sgnL; rw [zerL_of (by rw [HL.out]; exact HZ.out)]; simp)
      go_wp2_with fail
      go_ret
      refine ⟨a, cap, ?_, ?_, Below.refl _ _⟩
      · rw [HF.out, HL.out]; rfl
      · rw [HF.out, HL.out]; exact HX.out
theorem sgn_sm {xs : List Int} (h : SmL xs) : SmL (sgnL xs) := by
  unfold sgnL
  split
  · exact h
  · refine ⟨by rw [List.length_map]; exact h.1, fun j => ?_⟩
    by_cases hj : j < xs.length
    · have := h.2 j
      have e : (xs.map (- ·)).getD j 0 = -(xs.getD j 0) := by
        rw [List.getD, List.getD, List.getElem?_map, List.getElem?_eq_getElem hj]; rfl
      rw [e]; omega
    · rw [List.getD, List.getElem?_eq_none (by rw [List.length_map]; omega)]; simp
set_option maxRecDepth 20000 in
set_option maxHeartbeats 800000 in
theorem best_any (a a' : Option Addr) (cap cap' : Nat) (c l : List Int) (w : World) (hc : IsInts w a c.length c) (hl : IsInts w a' l.length l) (hsc : SmL c) (hsl : SmL l) (hcl : c = [] ∨ c.length = l.length) :
    Calls Try.prog 56 #[.slice a c.length cap, .slice a' l.length cap'] w (RdL w (bestR c l)) := by
  have HC := Lib.hid hc
  have HSG := Lib.hid (sign_any a' cap' l w hl hsl)
  have HSC := Lib.hid hsc
  have HSL := Lib.hid (sgn_sm hsl)
  have HLN := Lib.hid (sgnL_len l)
  have hB : bestR c l = if c = [] then sgnL l else if btB (sgnL l) c then sgnL l else c := rfl
  obtain ⟨s, hs⟩ : ∃ s, sgnL l = s := ⟨_, rfl⟩
  rw [hs] at HSG HSL HLN hB
  have HCL := Lib.hid hcl
  obtain ⟨n, hn⟩ : ∃ n, c.length = n := ⟨_, rfl⟩
  rw [hn] at HC
  rw [hn]
  have hbt : btB s c = (decide (sqL s < sqL c) || (decide (sqL s = sqL c) && lxB s c)) := rfl
  have HQ1 := Lib.hid (fun w a n cap h => squares_any a n cap c w h hsc)
  have HQ2 := Lib.hid (fun w a n cap h => squares_any a n cap s w h HSL.out)
  obtain ⟨sv, hsv⟩ : ∃ q, sqL s = q := ⟨_, rfl⟩
  obtain ⟨sc, hscq⟩ : ∃ q, sqL c = q := ⟨_, rfl⟩
  rw [hsv, hscq] at hbt
  rw [hscq] at HQ1
  rw [hsv] at HQ2
  have HBT := Lib.hid (And.intro hB hbt)
  have HNE := Lib.hid hn
  clear hc hl hsc hsl hs hsv hscq hB hbt hn hcl
  go_enter Try.func56, Try.ntmps56
  go_wp2_with fail
  refine HSG.out.mono ?_
  rintro e w1 ⟨a2, c2, rfl, h2, hb⟩
  have H1 := Lib.hid (And.intro h2 (And.intro (HC.out.below hb) hb))
  clear h2 hb
  by_cases h0 : c = []
  · have HF := Lib.hid (show bestR c l = s by rw [HBT.out.1, if_pos h0])
    have hn0 : n = 0 := by rw [← HNE.out, h0]; rfl
    have hni : (n : Int) = 0 := by omega
    have hnb : ((n : Int) == 0) = true := by rw [hni]; rfl
    clear h0 hn0
    go_wp2_with fail
    go_ret
    rw [HF.out]
    exact ⟨a2, c2, rfl, H1.out.1, H1.out.2.2⟩
  · have hcp : 0 < c.length := by cases c with
      | nil => exact absurd rfl h0
      | cons x t => simp
    have HB2 := Lib.hid (show bestR c l = if btB s c then s else c by rw [HBT.out.1, if_neg h0])
    have hn := HNE.out
    have hln : s.length = c.length := by
      rw [HLN.out]
      rcases HCL.out with h | h
      · exact absurd h h0
      · exact h.symm
    rw [hn] at hln hcp
    have hn0 : ¬ (n : Int) = 0 := by omega
    have hnb : ((n : Int) == 0) = false := by rw [beq_eq_false_iff_ne]; exact hn0
    rw [hln] at H1
    rw [hln]
    have hn4 : n ≤ 4 := by rw [← hn]; exact HSC.out.1
    have HNN := Lib.hid (And.intro hn hln)
    clear hn hln h0 HCL HLN HSG
    go_wp2_with fail
    refine (HQ1.out _ a n cap H1.out.2.1).mono ?_
    rintro e w2 ⟨rfl, hb⟩
    have H2 := Lib.hid (And.intro (H1.out.1.below hb) (And.intro (H1.out.2.1.below hb) (bthen H1.out.2.2 hb)))
    clear hb H1
    go_wp2_with fail
    refine (HQ2.out _ a2 n c2 H2.out.1).mono ?_
    rintro e w3 ⟨rfl, hb⟩
    have H3 := Lib.hid (And.intro (H2.out.1.below hb) (And.intro (H2.out.2.1.below hb) (bthen H2.out.2.2 hb)))
    clear hb H2
    by_cases hlt : sv < sc
    · have HF := Lib.hid (show bestR c l = s by rw [HB2.out, HBT.out.2, decide_eq_true hlt]; rfl)
      go_wp2_with fail
      go_ret
      rw [HF.out]
      exact ⟨a2, c2, by rw [HNN.out.2]; rfl, by rw [HNN.out.2]; exact H3.out.1, H3.out.2.2⟩
    · by_cases heq : sv = sc
      · subst heq
        cases hlx : lxB s c with
        | true =>
          have HBF := Lib.hid (before_any a2 a n c2 cap s c w3 H3.out.1 H3.out.2.1 (by omega))
          rw [hlx] at HBF
          have HF := Lib.hid (show bestR c l = s by rw [HB2.out, HBT.out.2, hlx, decide_eq_false hlt, decide_eq_true rfl]; rfl)
          clear hlx
          go_wp2_with fail
          refine HBF.out.mono ?_
          rintro e w4 ⟨rfl, hb⟩
          have H4 := Lib.hid (And.intro (H3.out.1.below hb) (bthen H3.out.2.2 hb))
          clear hb
          go_wp2_with fail
          go_ret
          rw [HF.out]
          exact ⟨a2, c2, by rw [HNN.out.2]; rfl, by rw [HNN.out.2]; exact H4.out.1, H4.out.2⟩
        | false =>
          have HBF := Lib.hid (before_any a2 a n c2 cap s c w3 H3.out.1 H3.out.2.1 (by omega))
          rw [hlx] at HBF
          have HF := Lib.hid (show bestR c l = c by rw [HB2.out, HBT.out.2, hlx, decide_eq_false hlt, decide_eq_true rfl]; rfl)
          clear hlx
          go_wp2_with fail
          refine HBF.out.mono ?_
          rintro e w4 ⟨rfl, hb⟩
          have H4 := Lib.hid (And.intro (H3.out.2.1.below hb) (bthen H3.out.2.2 hb))
          clear hb
          go_wp2_with fail
          go_ret
          rw [HF.out]
          exact ⟨a, cap, by rw [HNN.out.1]; rfl, by rw [HNN.out.1]; exact H4.out.1, H4.out.2⟩
      · have hne : (sv == sc) = false := by rw [beq_eq_false_iff_ne]; exact heq
        have HF := Lib.hid (show bestR c l = c by rw [HB2.out, HBT.out.2, decide_eq_false hlt, decide_eq_false heq]; rfl)
        go_wp2_with fail
        go_ret
        rw [HF.out]
        exact ⟨a, cap, by rw [HNN.out.1]; rfl, by rw [HNN.out.1]; exact H3.out.2.1, H3.out.2.2⟩
end Go.Proofs.Ytpineiocjaajnaa
