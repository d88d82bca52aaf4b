import Derived.Test.YthjndfbjalkckaaDoorOne
import Derived.Test.YthjndfbjalkckaaDoorOwnX
/- Congruences that are valid: program and reference. No condition. -/
namespace Go.Proofs.YthjndfbjalkckaaDoor
open Go.RowKit
set_option linter.unusedVariables false

theorem inRangeV (n lo hi : Int) (w : World) : Calls Tryd.prog 29 #[.int .i64 n, .int .i64 lo, .int .i64 hi] w fun e w' => e = .returned (.bool (inR n lo hi)) ∧ w' = w :=
  (inRange_any n lo hi w).mono fun e w' ⟨h1, h2⟩ => ⟨h1, h2.symm⟩
theorem l00InV (n lo hi : Int) (w : World) : Calls Tryd.prog 27 #[.int .i64 n, .int .i64 lo, .int .i64 hi] w fun e w' => e = .returned (.bool (inR n lo hi)) ∧ w' = w :=
  (l00In_any n lo hi w).mono fun e w' ⟨h1, h2⟩ => ⟨h1, h2.symm⟩
/-- Three numbers in a block. -/
structure G3 (w : World) (b : Nat) (m a c : Int) : Prop where
  c0 : w.cell? ⟨b, 0, none⟩ = some (.int .i64 m)
  c1 : w.cell? ⟨b, 1, none⟩ = some (.int .i64 a)
  c2 : w.cell? ⟨b, 2, none⟩ = some (.int .i64 c)
  lt : b < w.heap.size
theorem G3.all {w w' : World} {b : Nat} {m a c : Int} (h : G3 w b m a c) (hb : Below w.heap.size w w') : G3 w' b m a c :=
  ⟨(hb.cell (p := ⟨b, 0, none⟩) h.lt).trans h.c0, (hb.cell (p := ⟨b, 1, none⟩) h.lt).trans h.c1, (hb.cell (p := ⟨b, 2, none⟩) h.lt).trans h.c2, Nat.lt_of_lt_of_le h.lt hb.size⟩
theorem G3.new (w : World) (t : Nat) (m a c : Int) : G3 (w.alloc (.cells #[.int .i64 m, .int .i64 a, .int .i64 c] t (0, 0))) w.heap.size m a c := by
  have h := heap_at_new w (.cells #[.int .i64 m, .int .i64 a, .int .i64 c] t (0, 0))
  refine ⟨?_, ?_, ?_, by simp⟩ <;> simp only [World.cell?, h] <;> rfl
def cgOk (m a c : Int) : Bool := inR m 2 100000 && (inR a 0 (m - 1) && inR c 0 (m - 1))
theorem cg_wrap {m : Int} (h : inR m 2 100000 = true) : IntKind.i64.wrap (m - 1) = m - 1 := by
  simp only [inR, Bool.and_eq_true, decide_eq_true_eq] at h
  exact IntWalk.i64_in _ (by omega)
theorem validCg_any (m a c : Int) (w : World) : Calls Tryd.prog 22 #[.agg #[.int .i64 m, .int .i64 a, .int .i64 c]] w fun e w' => e = .returned (.bool (cgOk m a c)) ∧ Below w.heap.size w w' := by
  have H0 := Lib.hid (And.intro (G3.new w 23 m a c) ((Below.refl _ w).alloc (Nat.le_refl _) (.cells #[.int .i64 m, .int .i64 a, .int .i64 c] 23)))
  cases h1 : inR m 2 100000 with
  | false =>
    have HV := Lib.hid (show cgOk m a c = false by unfold cgOk; rw [h1]; rfl)
    have H1 := Lib.hid h1
    clear h1
    go_enter Tryd.func22, Tryd.ntmps22
    go_wp2_with fail
    refine (inRangeV _ _ _ _).mono ?_
    rintro e w' ⟨rfl, rfl⟩
    rw [H1.out]
    obtain ⟨wA, hwA⟩ : ∃ w', w.alloc (.cells #[.int .i64 m, .int .i64 a, .int .i64 c] 23) = w' := ⟨_, rfl⟩
    rw [hwA] at H0 ⊢
    clear hwA
    obtain ⟨y0, y1, y2, y3⟩ := H0.out.1
    go_wp2_with fail
    go_ret
    exact ⟨by rw [HV.out]; rfl, H0.out.2⟩
  | true =>
    have hw := cg_wrap h1
    have H1 := Lib.hid h1
    cases h2 : inR a 0 (m - 1) with
    | false =>
      have HV := Lib.hid (show cgOk m a c = false by unfold cgOk; rw [h1, h2]; rfl)
      have H2 := Lib.hid h2
      clear h1 h2
      go_enter Tryd.func22, Tryd.ntmps22
      go_wp2_with fail
      refine (inRangeV _ _ _ _).mono ?_
      rintro e w' ⟨rfl, rfl⟩
      rw [H1.out]
      obtain ⟨wA, hwA⟩ : ∃ w', w.alloc (.cells #[.int .i64 m, .int .i64 a, .int .i64 c] 23) = w' := ⟨_, rfl⟩
      rw [hwA] at H0 ⊢
      clear hwA
      obtain ⟨y0, y1, y2, y3⟩ := H0.out.1
      go_wp2_with fail
      refine (inRangeV _ _ _ _).mono ?_
      rintro e w' ⟨rfl, rfl⟩
      rw [H2.out]
      go_wp2_with fail
      go_ret
      exact ⟨by rw [HV.out]; rfl, H0.out.2⟩
    | true =>
      have HV := Lib.hid (show cgOk m a c = inR c 0 (m - 1) by unfold cgOk; rw [h1, h2]; rfl)
      have H2 := Lib.hid h2
      clear h1 h2
      go_enter Tryd.func22, Tryd.ntmps22
      go_wp2_with fail
      refine (inRangeV _ _ _ _).mono ?_
      rintro e w' ⟨rfl, rfl⟩
      rw [H1.out]
      obtain ⟨wA, hwA⟩ : ∃ w', w.alloc (.cells #[.int .i64 m, .int .i64 a, .int .i64 c] 23) = w' := ⟨_, rfl⟩
      rw [hwA] at H0 ⊢
      clear hwA
      obtain ⟨y0, y1, y2, y3⟩ := H0.out.1
      go_wp2_with fail
      refine (inRangeV _ _ _ _).mono ?_
      rintro e w' ⟨rfl, rfl⟩
      rw [H2.out]
      go_wp2_with fail
      refine (inRangeV _ _ _ _).mono ?_
      rintro e w' ⟨rfl, rfl⟩
      obtain ⟨z, hz⟩ : ∃ z, inR c 0 (m - 1) = z := ⟨_, rfl⟩
      rw [hz] at HV ⊢
      clear hz
      go_wp2_with fail
      go_ret
      exact ⟨by rw [HV.out]; rfl, H0.out.2⟩
theorem l03Is_any (m a c : Int) (b : Nat) (w : World) (hc : G3 w b m a c) : Calls Tryd.prog 42 #[.pointer (some ⟨b, 0, none⟩)] w fun e w' => e = .returned (.bool (cgOk m a c)) ∧ Below w.heap.size w w' := by
  obtain ⟨y0, y1, y2, y3⟩ := hc
  cases h1 : inR m 2 100000 with
  | false =>
    have HV := Lib.hid (show cgOk m a c = false by unfold cgOk; rw [h1]; rfl)
    have H1 := Lib.hid (fun w => l00InV m 2 100000 w)
    rw [h1] at H1
    clear h1
    go_enter Tryd.func42, Tryd.ntmps42
    go_wp2_with fail
    go_quiet ((go_at_call 27; exact Calls.quiet_of_same (H1.out _)))
    go_wp2
    go_ret
    exact ⟨by rw [HV.out]; rfl, drewN_below _ _⟩
  | true =>
    have hw := cg_wrap h1
    have H1 := Lib.hid (fun w => l00InV m 2 100000 w)
    rw [h1] at H1
    cases h2 : inR a 0 (m - 1) with
    | false =>
      have HV := Lib.hid (show cgOk m a c = false by unfold cgOk; rw [h1, h2]; rfl)
      have H2 := Lib.hid (fun w => l00InV a 0 (m - 1) w)
      rw [h2] at H2
      clear h1 h2
      go_enter Tryd.func42, Tryd.ntmps42
      go_wp2_with fail
      go_quiet ((go_at_call 27; (first | (with_reducible exact Calls.quiet_of_same (H1.out _)) | (with_reducible exact Calls.quiet_of_same (H2.out _)))))
      go_wp2
      go_ret
      exact ⟨by rw [HV.out]; rfl, drewN_below _ _⟩
    | true =>
      have HV := Lib.hid (show cgOk m a c = inR c 0 (m - 1) by unfold cgOk; rw [h1, h2]; rfl)
      have H2 := Lib.hid (fun w => l00InV a 0 (m - 1) w)
      have H3 := Lib.hid (fun w => l00InV c 0 (m - 1) w)
      rw [h2] at H2
      obtain ⟨z, hz⟩ : ∃ z, inR c 0 (m - 1) = z := ⟨_, rfl⟩
      rw [hz] at HV H3
      clear h1 h2 hz
      go_enter Tryd.func42, Tryd.ntmps42
      go_wp2_with fail
      go_quiet ((go_at_call 27; (first | (with_reducible exact Calls.quiet_of_same (H1.out _)) | (with_reducible exact Calls.quiet_of_same (H2.out _)) | (with_reducible exact Calls.quiet_of_same (H3.out _)))))
      go_wp2
      go_ret
      exact ⟨by rw [HV.out]; rfl, drewN_below _ _⟩
theorem cg_bd {m a c : Int} (h : cgOk m a c = true) : (2 ≤ m ∧ m ≤ 100000) ∧ (0 ≤ a ∧ a ≤ m - 1) ∧ (0 ≤ c ∧ c ≤ m - 1) := by
  simp only [cgOk, inR, Bool.and_eq_true, decide_eq_true_eq] at h
  exact h
end Go.Proofs.YthjndfbjalkckaaDoor
