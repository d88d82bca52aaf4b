import Derived.Test.YtklnfhjgbmfilaaFrM
/- Sums of lists of fractions in the reference. No condition. -/
namespace Go.Proofs.Ytklnfhjgbmfilaa
open Go.RowKit
set_option linter.unusedVariables false

/-- The reference's sum, of fractions that are valid. -/
theorem fadd_v (p q b c : Int) (w : World) (h1 : vF p b = true) (h2 : vF q c = true) :
    Calls Try.prog 42 #[.agg #[.int .i64 p, .int .i64 b], .agg #[.int .i64 q, .int .i64 c]] w fun e w' => e = .returned (fracV (mkRat p b.toNat + mkRat q c.toNat)) ∧ Below w.heap.size w w' := by
  obtain ⟨⟨hb, hb2⟩, hp, hg1⟩ := vF_iff.1 h1
  obtain ⟨⟨hc, hc2⟩, hq, hg2⟩ := vF_iff.1 h2
  obtain ⟨B, rfl⟩ := Int.eq_ofNat_of_zero_le (show 0 ≤ b by omega)
  obtain ⟨C, rfl⟩ := Int.eq_ofNat_of_zero_le (show 0 ≤ c by omega)
  simp only [Int.toNat_natCast] at hg1 hg2 ⊢
  exact l01FAdd_any p q B C w (by omega) (by omega) (by omega) (by omega) (by omega) (by omega) hg1 hg2
theorem l05Zero_any (w : World) : Calls Try.prog 120 #[] w fun e w' => e = .returned (.agg #[.int .i64 0, .int .i64 1]) ∧ Below w.heap.size w w' := by
  have HA := Lib.hid ((Below.refl _ w).alloc (Nat.le_refl _) (.cells #[.int .i64 0, .int .i64 1] 33))
  go_enter Try.func120, Try.ntmps120
  go_wp2
  exact bodyPost_ret (v := .agg #[.int .i64 0, .int .i64 1]) (by simp [results, Try.results120, go_sem]) rfl ⟨rfl, HA.out⟩
set_option maxHeartbeats 800000 in
theorem l01FAll_any (a : Option Addr) (n cap : Nat) (fs : List Int) (w : World) (hb : n ≤ 1048576) (hx : IsInts w a (n * 2) fs) :
    Calls Try.prog 110 #[.slice a n cap] w (Ret w (.bool (allVF fs n))) := by
  have HX := Lib.hid hx
  clear hx
  go_enter Try.func110, Try.ntmps110
  go_wp2
  go_loopw [3] (fun i wr => ∃ k : Nat, k ≤ n ∧ i = .int .i64 (k : Nat) ∧ Hid (∀ j, j < k → vF (frN fs j) (frD fs j) = true) ∧ Hid (Below w.heap.size w wr)) (fun i _ => n - (intOf i).toNat)
  case atStart => exact ⟨0, Nat.zero_le _, rfl, Lib.hid (fun j hj => by omega), Lib.hid (Below.refl _ _)⟩
  case round =>
    obtain ⟨k, hk, rfl, Hall, HB⟩ := hrel
    by_cases hlt : k < n
    · obtain ⟨b, off, rfl, c1, c2⟩ := fr_at (HX.out.below HB.out) hlt
      have hk0 : (0:Int) ≤ (k:Int) := by omega
      have hkl : (k:Int) < (n:Int) := by omega
      have HP := Lib.hid (l01FIs_any (frN fs k) (frD fs k) wr)
      obtain ⟨x, hxx⟩ : ∃ x, frN fs k = x := ⟨_, rfl⟩
      obtain ⟨y, hyy⟩ : ∃ y, frD fs k = y := ⟨_, rfl⟩
      rw [hxx, hyy] at HP
      rw [hxx] at c1
      rw [hyy] at c2
      have HE := Lib.hid (And.intro hxx hyy)
      clear hxx hyy
      cases hin : vF x y with
      | true =>
        rw [hin] at HP
        have Hin := Lib.hid hin
        clear hin
        go_wp2_with fail
        refine HP.out.mono ?_
        rintro e w1 ⟨rfl, hb1⟩
        have HB1 := Lib.hid (bthen HB.out hb1)
        clear hb1 c1 c2
        go_wp2
        go_roundw
        case rel =>
          refine ⟨k + 1, by omega, by go_num, Lib.hid (fun j hj => ?_), HB1⟩
          by_cases h : j = k
          · subst h; rw [HE.out.1, HE.out.2]; exact Hin.out
          · exact Hall.out j (by omega)
        case measure => simp [intOf]; omega
      | false =>
        rw [hin] at HP
        have Hin := Lib.hid hin
        clear hin
        go_wp2_with fail
        refine HP.out.mono ?_
        rintro e w1 ⟨rfl, hb1⟩
        have HB1 := Lib.hid (bthen HB.out hb1)
        clear hb1 c1 c2
        go_wp2
        go_ret
        refine ⟨?_, HB1.out⟩
        rw [show allVF fs n = false from allB_no hlt (by rw [HE.out.1, HE.out.2]; exact Hin.out)]
        try rfl
    · obtain rfl : k = n := by omega
      go_wp2
      go_ret
      refine ⟨?_, HB.out⟩
      rw [show allVF fs k = true from allB_of Hall.out]
      try rfl
/-- A new box behind a call, or a call behind a new box: the sum is as it was, and the box holds what was stored. -/
theorem ordA {w wr w7 : World} {b4 t : Nat} {r : Rat} {u v : Value} (h : SfI w b4 r wr) (hX : Hid (Below wr.drew.heap.size wr.drew w7)) :
    SfI w b4 r (w7.alloc (.cells #[u, v] t (0, 0))) ∧ C2 (w7.alloc (.cells #[u, v] t (0, 0))) w7.heap.size u v ∧ w7.heap.size ≠ b4 ∧ w7.heap.size ≠ w.heap.size := by
  have hb : Below wr.heap.size wr w7 := bthen (Below.refl _ wr).drew hX.out
  have h7 := h.all hb
  exact ⟨h7.all ((Below.refl _ w7).alloc (Nat.le_refl _) _), C2.new w7 t u v, by have := h7.c4.lt; omega, by have := h7.c2.lt; omega⟩
theorem ordB {w wr w7 : World} {b4 t : Nat} {r : Rat} {x y u v : Value} (h : SfI w b4 r wr) (hX : Hid (Below (wr.alloc (.cells #[x, y] t (0, 0))).drew.heap.size (wr.alloc (.cells #[x, y] t (0, 0))).drew w7)) :
    SfI w b4 r ((w7.setCell ⟨wr.heap.size, 0, none⟩ u).setCell ⟨wr.heap.size, 1, none⟩ v) ∧ C2 ((w7.setCell ⟨wr.heap.size, 0, none⟩ u).setCell ⟨wr.heap.size, 1, none⟩ v) wr.heap.size u v ∧ wr.heap.size ≠ b4 ∧ wr.heap.size ≠ w.heap.size := by
  have ha : Below wr.heap.size wr (wr.alloc (.cells #[x, y] t (0, 0))) := (Below.refl _ wr).alloc (Nat.le_refl _) _
  have hb : Below (wr.alloc (.cells #[x, y] t (0, 0))).heap.size (wr.alloc (.cells #[x, y] t (0, 0))) w7 := bthen (Below.refl _ _).drew hX.out
  have hn := (C2.new wr t x y).all hb
  have h7 := h.all (bthen ha hb)
  have n1 : wr.heap.size ≠ b4 := by have := h.c4.lt; omega
  have n2 : wr.heap.size ≠ w.heap.size := by have := h.c2.lt; omega
  exact ⟨⟨h7.c2.other2 n2 _ _, h7.c4.other2 n1 _ _, h7.lt, below_two h7.bel h.bel.size _ _⟩, hn.two u v, n1, n2⟩
set_option maxRecDepth 20000 in
set_option maxHeartbeats 3200000 in
theorem l01FSum_any (a : Option Addr) (n cap : Nat) (fs : List Int) (w : World) (hb : n ≤ 1048576) (hx : IsInts w a (n * 2) fs) (hv : allVF fs n = true) :
    Calls Try.prog 111 #[.slice a n cap] w fun e w' => e = .returned (sumFV fs n) ∧ Below w.heap.size w w' := by
  have HX := Lib.hid (And.intro hx hv)
  clear hx hv
  have hA : Below w.heap.size w ((w.alloc (.cells #[.int .i64 0, .int .i64 0] 33)).alloc (.cells #[.int .i64 0, .int .i64 1] 33)) := ((Below.refl _ w).alloc (Nat.le_refl _) _).alloc (by simp) _
  have hB1 : Below (w.alloc (.cells #[.int .i64 0, .int .i64 0] 33)).heap.size (w.alloc (.cells #[.int .i64 0, .int .i64 0] 33)) ((w.alloc (.cells #[.int .i64 0, .int .i64 0] 33)).alloc (.cells #[.int .i64 0, .int .i64 1] 33)) := (Below.refl _ _).alloc (Nat.le_refl _) _
  have H0 := Lib.hid (show SfI w (w.heap.size + 1) (sumR fs 0) ((w.alloc (.cells #[.int .i64 0, .int .i64 0] 33)).alloc (.cells #[.int .i64 0, .int .i64 1] 33)) from
    ⟨(C2.new w _ _ _).all hB1, by have := C2.new (w.alloc (.cells #[.int .i64 0, .int .i64 0] 33)) 33 (.int .i64 0) (.int .i64 1); rw [alloc_size] at this; exact this, by omega, hA⟩)
  clear hA hB1
  go_enter Try.func111, Try.ntmps111
  go_wp2_with fail
  obtain ⟨w3, hw3⟩ : ∃ w', ((w.alloc (.cells #[.int .i64 0, .int .i64 0] 33)).alloc (.cells #[.int .i64 0, .int .i64 1] 33)) = w' := ⟨_, rfl⟩
  rw [hw3] at H0 ⊢
  obtain ⟨b4, hb4⟩ : ∃ b, w.heap.size + 1 = b := ⟨_, rfl⟩
  rw [hb4] at H0 ⊢
  clear hw3 hb4
  go_loopw [5] (fun i wr => ∃ k : Nat, k ≤ n ∧ i = .int .i64 (k : Nat) ∧ Hid (SfI w b4 (sumR fs k) wr ∧ ∀ j, j < k → fitR (sumR fs (j + 1)) = true)) (fun i _ => n - (intOf i).toNat)
  case atStart => exact ⟨0, Nat.zero_le _, rfl, Lib.hid ⟨H0.out, fun j hj => by omega⟩⟩
  case round =>
    clear H0
    obtain ⟨k, hk, rfl, HS⟩ := hrel
    obtain ⟨z0, z1, z2, z3, z4⟩ := HS.out.1.c4
    have hfk : fitR (sumR fs k) = true := by
      cases k with
      | zero => exact fitR_zero
      | succ k => exact HS.out.2 k (by omega)
    by_cases hlt : k < n
    · obtain ⟨b, off, rfl, c1, c2⟩ := fr_at (HX.out.1.below HS.out.1.bel) hlt
      have hbs : b < wr.heap.size := World.block_lt_of_cell? wr _ c1
      have hk0 : (0:Int) ≤ (k:Int) := by omega
      have hkl : (k:Int) < (n:Int) := by omega
      have hok := allB_at HX.out.2 hlt
      have HC := Lib.hid (fun w => fadd_v (sumR fs k).num (frN fs k) ((sumR fs k).den : Int) (frD fs k) w (vF_fit hfk) hok)
      rw [Int.toNat_natCast, mk_self, show sumR fs k + mkRat (frN fs k) (frD fs k).toNat = sumR fs (k + 1) from rfl] at HC
      obtain ⟨x, hxx⟩ : ∃ x, frN fs k = x := ⟨_, rfl⟩
      obtain ⟨y, hyy⟩ : ∃ y, frD fs k = y := ⟨_, rfl⟩
      obtain ⟨N1, hN1⟩ : ∃ y, (sumR fs k).num = y := ⟨_, rfl⟩
      obtain ⟨D1, hD1⟩ : ∃ y, (((sumR fs k).den : Nat) : Int) = y := ⟨_, rfl⟩
      rw [hxx, hyy, hN1, hD1] at HC
      rw [hxx] at c1
      rw [hyy] at c2
      rw [hN1] at z0
      rw [hD1] at z1
      have HND := Lib.hid (And.intro hN1 hD1)
      clear hxx hyy hfk hok hN1 hD1
      have hda : ∀ o, (wr.alloc o).drew.heap.size = wr.heap.size + 1 := fun o => alloc_size wr o
      have hds : ∀ o, (wr.drew.alloc o).heap.size = wr.heap.size + 1 := fun o => alloc_size wr.drew o
      have hn0 := World.new_ne wr _ z0
      have hn1 := World.new_ne wr _ c1
      simp at hn0 hn1
      cases hfit : fitR (sumR fs (k + 1)) with
      | false =>
        have HZ := Lib.hid (show sumFV fs n = zeroF from sumFV_no hlt hfit)
        rw [fracV_no hfit] at HC
        clear hfit
        go_wp2_with fail
        go_region_held3 (fun w' => w'.cell? ⟨b4, 0, none⟩ = some (.int .i64 N1) ∧ w'.cell? ⟨b4, 1, none⟩ = some (.int .i64 D1) ∧ w'.cell? ⟨b, off + k * 2, none⟩ = some (.int .i64 x) ∧ w'.cell? ⟨b, off + k * 2 + 1, none⟩ = some (.int .i64 y) ∧ b4 < w'.heap.size ∧ b < w'.heap.size)
          ((repeat' refine And.intro ?_ ?_) <;> first | (go_keep; done) | (go_keep; omega))
          (first | (go_at_call 42; refine (keptN_of wr.heap.size (HC.out _) ?_).mono ?_; (first | exact Nat.le_refl _ | (rw [hda]; omega) | (rw [hds]; omega) | (simp; done)); rintro e w7 ⟨rfl, hX3, r0, r1, r2, r3⟩; have r00 := (fun o => r0 b4 o (by omega)); have r01 := (fun o => r0 b o (by omega)); have r4 : b4 < w7.heap.size := (by omega); have r5 : b < w7.heap.size := (by omega); clear r0))
        all_goals rename_i hHeld
        all_goals clear hHeld z0 z1 z2 z3 z4 c1 c2
        all_goals first
          | (have HN := Lib.hid (ordA (t := 33) (u := .int .i64 0) (v := .int .i64 0) HS.out.1 hX3)
             obtain ⟨wA, hwA⟩ : ∃ w', w7.alloc (.cells #[.int .i64 0, .int .i64 0] 33) = w' := ⟨_, rfl⟩
             rw [hwA] at HN ⊢
             obtain ⟨b6, hb6⟩ : ∃ b, w7.heap.size = b := ⟨_, rfl⟩
             rw [hb6] at HN ⊢)
          | (have HN := Lib.hid (ordB (u := .int .i64 0) (v := .int .i64 0) HS.out.1 hX3)
             obtain ⟨wA, hwA⟩ : ∃ w', (w7.setCell ⟨wr.heap.size, 0, none⟩ (.int .i64 0)).setCell ⟨wr.heap.size, 1, none⟩ (.int .i64 0) = w' := ⟨_, rfl⟩
             rw [hwA] at HN ⊢
             obtain ⟨b6, hb6⟩ : ∃ b, wr.heap.size = b := ⟨_, rfl⟩
             rw [hb6] at HN ⊢)
        all_goals clear hwA hb6 r1 r2 r3 r00 r01 r4 r5 hX3
        all_goals (obtain ⟨y0, y1, y2, y3, y4⟩ := HN.out.1.c2)
        all_goals (go_wp2_with fail)
        all_goals refine bodyPost_ret (v := .tuple #[.agg #[.int .i64 0, .int .i64 0], .bool false]) (by simp [results, Try.results111, go_sem, *]) rfl ⟨by rw [HZ.out]; rfl, ?_⟩
        all_goals exact below_two HN.out.1.bel (Nat.le_refl _) _ _
      | true =>
        have HZ := Lib.hid hfit
        rw [fracV_yes hfit] at HC
        clear hfit
        go_wp2_with fail
        go_region_held3 (fun w' => w'.cell? ⟨b4, 0, none⟩ = some (.int .i64 N1) ∧ w'.cell? ⟨b4, 1, none⟩ = some (.int .i64 D1) ∧ w'.cell? ⟨b, off + k * 2, none⟩ = some (.int .i64 x) ∧ w'.cell? ⟨b, off + k * 2 + 1, none⟩ = some (.int .i64 y) ∧ b4 < w'.heap.size ∧ b < w'.heap.size)
          ((repeat' refine And.intro ?_ ?_) <;> first | (go_keep; done) | (go_keep; omega))
          (first | (go_at_call 42; refine (keptN_of wr.heap.size (HC.out _) ?_).mono ?_; (first | exact Nat.le_refl _ | (rw [hda]; omega) | (rw [hds]; omega) | (simp; done)); rintro e w7 ⟨rfl, hX3, r0, r1, r2, r3⟩; have r00 := (fun o => r0 b4 o (by omega)); have r01 := (fun o => r0 b o (by omega)); have r4 : b4 < w7.heap.size := (by omega); have r5 : b < w7.heap.size := (by omega); clear r0))
        all_goals rename_i hHeld
        all_goals clear hHeld z0 z1 z2 z3 z4 c1 c2
        all_goals first
          | (have HN := Lib.hid (ordA (t := 33) (u := .int .i64 (sumR fs (k + 1)).num) (v := .int .i64 ((sumR fs (k + 1)).den : Nat)) HS.out.1 hX3)
             obtain ⟨wA, hwA⟩ : ∃ w', w7.alloc (.cells #[.int .i64 (sumR fs (k + 1)).num, .int .i64 ((sumR fs (k + 1)).den : Nat)] 33) = w' := ⟨_, rfl⟩
             rw [hwA] at HN ⊢
             obtain ⟨b6, hb6⟩ : ∃ b, w7.heap.size = b := ⟨_, rfl⟩
             rw [hb6] at HN ⊢)
          | (have HN := Lib.hid (ordB (u := .int .i64 (sumR fs (k + 1)).num) (v := .int .i64 ((sumR fs (k + 1)).den : Nat)) HS.out.1 hX3)
             obtain ⟨wA, hwA⟩ : ∃ w', (w7.setCell ⟨wr.heap.size, 0, none⟩ (.int .i64 (sumR fs (k + 1)).num)).setCell ⟨wr.heap.size, 1, none⟩ (.int .i64 ((sumR fs (k + 1)).den : Nat)) = w' := ⟨_, rfl⟩
             rw [hwA] at HN ⊢
             obtain ⟨b6, hb6⟩ : ∃ b, wr.heap.size = b := ⟨_, rfl⟩
             rw [hb6] at HN ⊢)
        all_goals clear hwA hb6 r1 r2 r3 r00 r01 r4 r5 hX3
        all_goals (obtain ⟨x0, x1, x2, x3, x4⟩ := HN.out.2.1)
        all_goals (obtain ⟨z0, z1, z2, z3, z4⟩ := HN.out.1.c4)
        all_goals (go_wp2_with fail)
        all_goals
          go_roundw
          case rel => exact ⟨k + 1, by omega, by go_num, Lib.hid ⟨HN.out.1.put, fun j hj => by
              rcases Nat.lt_or_ge j k with h | h
              · exact HS.out.2 j h
              · obtain rfl : j = k := by omega
                exact HZ.out⟩⟩
          case measure => simp [intOf]; omega
    · obtain rfl : k = n := by omega
      obtain ⟨y0, y1, y2, y3, y4⟩ := HS.out.1.c2
      have HZ := Lib.hid (show sumFV fs k = _ from (sumFV_yes HS.out.2).trans (fracV_yes hfk))
      clear hfk
      go_wp2_with fail
      refine bodyPost_ret (v := .tuple #[.agg #[.int .i64 (sumR fs k).num, .int .i64 ((sumR fs k).den : Nat)], .bool true]) (by simp [results, Try.results111, go_sem, *]) rfl ⟨by rw [HZ.out], ?_⟩
      exact below_two HS.out.1.bel (Nat.le_refl _) _ _
end Go.Proofs.Ytklnfhjgbmfilaa
