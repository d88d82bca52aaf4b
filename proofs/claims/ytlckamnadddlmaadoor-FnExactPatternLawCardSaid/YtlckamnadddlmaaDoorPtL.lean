import Derived.Test.YtlckamnadddlmaaDoorPtW
/- The law of patterns: bad arguments, and the law FnExactPatternLaw. No condition. -/
namespace Go.Proofs.YtlckamnadddlmaaDoor
open Go.RowKit
set_option linter.unusedVariables false

theorem patOk_bits {P : ByteArray} (h : patOk P = true) : 1 ≤ P.size ∧ P.size ≤ 6 ∧ ∀ x ∈ P.data.toList, x = 48 ∨ x = 49 := by
  unfold patOk at h
  rw [Bool.and_eq_true] at h
  have h2 := h.2
  simp only [inR, Bool.and_eq_true, decide_eq_true_eq] at h2
  refine ⟨by omega, by omega, ?_⟩
  intro x hx
  have hb := h.1
  unfold isB all01 at hb
  rw [Bool.and_eq_true] at hb
  exact is01_cases (List.all_eq_true.1 hb.2 x hx)
theorem cnt_same {P : ByteArray} (n : Nat) (h : patOk P = true) : cntR P.size (numL P.data.toList 0) n = cntL P.data.toList n := by
  obtain ⟨h1, _, hb⟩ := patOk_bits h
  have hl : P.data.toList.length = P.size := by simp
  unfold cntR cntL
  apply List.map_congr_left
  intro v _
  have := pl_same P.data.toList hb (by omega) n v
  rw [hl] at this
  exact congrArg (fun m : Nat => (m : Int)) this.symm
theorem patI_no (n : Int) (P : ByteArray) (w : World) (hP : P.size ≤ 1048576) (h : (inR n 1 50 && patOk P) = false) : Calls Tryd.prog 5 #[.int .i64 n, .string P] w (RetLaw w false [] []) := by
  have hz : ∀ wx : World, LawAt wx w.heap.size (.slice none 0 0) (.slice none 0 0) [] [] := fun wx => ⟨⟨rfl, Or.inl ⟨rfl, rfl⟩⟩, ⟨rfl, Or.inl ⟨rfl, rfl⟩⟩, Or.inl rfl⟩
  cases h1 : inR n 1 50 with
  | false =>
    have HR := Lib.hid h1
    clear h h1
    go_enter Tryd.func5, Tryd.ntmps5
    go_wp2_with fail
    refine (isFair_any _ _).mono ?_
    rintro e w1 ⟨rfl, rfl⟩
    rw [HR.out]
    go_wp2_with fail
    refine bodyPost_ret (v := .tuple #[.agg #[.slice none 0 0, .slice none 0 0], .bool false]) (by simp [results, Tryd.results5, go_sem, *]) rfl ⟨_, _, rfl, hz _, (Below.refl _ _).alloc (Nat.le_refl _) _⟩
  | true =>
    have h2 : patOk P = false := by rw [h1] at h; simpa using h
    have HR := Lib.hid (And.intro h1 h2)
    have HPat := Lib.hid (fun w => isPattern_any P w (by unfold maxLen; omega))
    have HW := Lib.hid ((Below.refl w.heap.size w).alloc (Nat.le_refl _) zeroLaw)
    unfold zeroLaw at HW
    clear h h1 h2
    obtain ⟨wA, hwA⟩ : ∃ x, w.alloc (.cells #[.slice none 0 0, .slice none 0 0] 25) = x := ⟨_, rfl⟩
    have HWA := Lib.hid hwA
    have hqa : LBox wA w.heap.size (.slice none 0 0) (.slice none 0 0) := by rw [← hwA]; exact heap_at_new _ _
    have hsz : w.heap.size < wA.heap.size := by rw [← hwA]; simp
    rw [hwA] at HW
    have HQ := Lib.hid (And.intro hqa hsz)
    clear hqa hsz
    go_enter Tryd.func5, Tryd.ntmps5
    go_wp2_with fail
    refine (isFair_any _ _).mono ?_
    rintro e w1 ⟨rfl, rfl⟩
    rw [HR.out.1]
    go_wp2_with fail
    refine (HPat.out _).mono ?_
    rintro e w1 ⟨rfl, hb1⟩
    have HB := Lib.hid hb1
    obtain ⟨q1, q2, q3, q4⟩ := pair_cells (LBox.below HQ.out.1 hb1)
    clear hb1
    rw [HR.out.2]
    go_wp2_with fail
    refine bodyPost_ret (v := .tuple #[.agg #[.slice none 0 0, .slice none 0 0], .bool false]) (by simp [results, Tryd.results5, go_sem, *]) rfl ⟨_, _, rfl, hz _, ?_⟩
    exact ((bthen HW.out HB.out).setCell (p := ⟨w.heap.size, 0, none⟩) (Nat.le_refl _) _).setCell (p := ⟨w.heap.size, 1, none⟩) (Nat.le_refl _) _
theorem patS_no (n : Int) (P : ByteArray) (w : World) (hP : P.size ≤ 1048576) (h : (inR n 1 50 && patOk P) = false) : Calls Tryd.prog 4 #[.int .i64 n, .string P] w (RetLaw w false [] []) := by
  have hz : ∀ wx : World, LawAt wx w.heap.size (.slice none 0 0) (.slice none 0 0) [] [] := fun wx => ⟨⟨rfl, Or.inl ⟨rfl, rfl⟩⟩, ⟨rfl, Or.inl ⟨rfl, rfl⟩⟩, Or.inl rfl⟩
  cases h1 : inR n 1 50 with
  | false =>
    have HR := Lib.hid h1
    clear h h1
    go_enter Tryd.func4, Tryd.ntmps4
    go_wp2_with fail
    refine (l05Fair_any _ _).mono ?_
    rintro e w1 ⟨rfl, rfl⟩
    rw [HR.out]
    go_wp2_with fail
    refine bodyPost_ret (v := .tuple #[.agg #[.slice none 0 0, .slice none 0 0], .bool false]) (by simp [results, Tryd.results4, go_sem, *]) rfl ⟨_, _, rfl, hz _, (Below.refl _ _).alloc (Nat.le_refl _) _⟩
  | true =>
    have h2 : patOk P = false := by rw [h1] at h; simpa using h
    have HR := Lib.hid (And.intro h1 h2)
    have HPat := Lib.hid (fun w => l05Pattern_any P w (by unfold maxLen; omega))
    have HW := Lib.hid ((Below.refl w.heap.size w).alloc (Nat.le_refl _) zeroLaw)
    unfold zeroLaw at HW
    clear h h1 h2
    obtain ⟨wA, hwA⟩ : ∃ x, w.alloc (.cells #[.slice none 0 0, .slice none 0 0] 25) = x := ⟨_, rfl⟩
    have HWA := Lib.hid hwA
    have hqa : LBox wA w.heap.size (.slice none 0 0) (.slice none 0 0) := by rw [← hwA]; exact heap_at_new _ _
    have hsz : w.heap.size < wA.heap.size := by rw [← hwA]; simp
    rw [hwA] at HW
    have HQ := Lib.hid (And.intro hqa hsz)
    clear hqa hsz
    go_enter Tryd.func4, Tryd.ntmps4
    go_wp2_with fail
    refine (l05Fair_any _ _).mono ?_
    rintro e w1 ⟨rfl, rfl⟩
    rw [HR.out.1]
    go_wp2_with fail
    refine (HPat.out _).mono ?_
    rintro e w1 ⟨rfl, rfl⟩
    obtain ⟨q1, q2, q3, q4⟩ := pair_cells HQ.out.1
    rw [HR.out.2]
    go_wp2_with fail
    refine bodyPost_ret (v := .tuple #[.agg #[.slice none 0 0, .slice none 0 0], .bool false]) (by simp [results, Tryd.results4, go_sem, *]) rfl ⟨_, _, rfl, hz _, ?_⟩
    exact (HW.out.setCell (p := ⟨w.heap.size, 0, none⟩) (Nat.le_refl _) _).setCell (p := ⟨w.heap.size, 1, none⟩) (Nat.le_refl _) _
set_option maxRecDepth 100000 in
set_option maxHeartbeats 3200000 in
theorem fnExactPatternLaw_of (n : Int) (P : ByteArray) (hP : P.size ≤ 1048576) (ok : Bool) (vs fs : List Int) (w : World) (hl : vs.length ≤ 1000)
    (HI0 : ∀ w, Calls Tryd.prog 5 #[.int .i64 n, .string P] w (RetLaw w ok vs fs)) (HS0 : ∀ w, Calls Tryd.prog 4 #[.int .i64 n, .string P] w (RetLaw w ok vs fs)) :
    Calls Tryd.prog 3 #[.int .i64 n, .string P] w fun e w' => e = .returned (.bool true) ∧ Below w.heap.size w w' := by
  have HI := Lib.hid HI0
  have HS := Lib.hid HS0
  clear HI0 HS0
  have hPi : ¬ (P.size : Int) > 1048576 := by omega
  have hPj : (P.size : Int) ≤ 1048576 := by omega
  go_enter Tryd.func3, Tryd.ntmps3
  go_wp2_with fail
  refine (HS.out _).mono ?_
  rintro e w1 ⟨V0, C0, rfl, hl0, hb1⟩
  obtain ⟨a1, c1, rfl⟩ := own_shape hl0.val
  obtain ⟨a2, c2, rfl⟩ := own_shape hl0.cha
  have H1 := Lib.hid (lawSt_one hl0 hb1)
  clear hl0 hb1
  obtain ⟨b0, hb0⟩ : ∃ b, w1.heap.size = b := ⟨_, rfl⟩
  rw [hb0] at H1
  have HB0 := Lib.hid hb0
  clear hb0
  go_wp2_with fail
  rw [HB0.out]
  obtain ⟨wA, hwA⟩ : ∃ w', w1.alloc (.cells #[.slice a1 vs.length c1, .slice a2 vs.length c2] 25) = w' := ⟨_, rfl⟩
  rw [hwA] at H1 ⊢
  clear hwA HB0
  refine (HI.out _).mono ?_
  rintro e w2 ⟨V1, C1, rfl, hl1, hb2⟩
  obtain ⟨a3, c3, rfl⟩ := own_shape hl1.val
  obtain ⟨a4, c4, rfl⟩ := own_shape hl1.cha
  have H2 := Lib.hid (lawSt_two H1.out hl1 hb2)
  clear hl1 hb2 H1
  obtain ⟨b1, hb1⟩ : ∃ b, w2.heap.size = b := ⟨_, rfl⟩
  rw [hb1] at H2
  have HB1 := Lib.hid hb1
  clear hb1
  obtain ⟨q1, q2, q3, q4⟩ := H2.out.cells
  go_wp2_with fail
  rw [HB1.out]
  obtain ⟨wB, hwB⟩ : ∃ w', w2.alloc (.cells #[.slice a3 vs.length c3, .slice a4 vs.length c4] 25) = w' := ⟨_, rfl⟩
  rw [hwB] at H2 q1 q2 q3 q4 ⊢
  clear hwB HB1
  refine (eqLaw_same _ _ _ _ _ _ vs fs _ (by omega) H2.out.l1 H2.out.l0).mono ?_
  rintro e w3 ⟨rfl, hb3⟩
  have H3 := Lib.hid (H2.out.below hb3)
  clear hb3 q1 q2 q3 q4 H2
  obtain ⟨q1, q2, q3, q4⟩ := H3.out.cells
  go_wp2_with fail
  refine (markLaw_one _ _ _ vs fs _ (by omega) H3.out.l1).mono ?_
  rintro e w4 ⟨rfl, hm, hk⟩
  have H4 := Lib.hid (H3.out.mark hm hk)
  clear hm hk q1 q2 q3 q4 H3
  obtain ⟨q1, q2, q3, q4⟩ := H4.out.cells
  obtain ⟨N, hN⟩ : ∃ N, vs.length = N := ⟨_, rfl⟩
  obtain ⟨M, hM⟩ : ∃ M, 1 + N + N * 2 = M := ⟨_, rfl⟩
  have HQ := Lib.hid (fun (w' : World) (h : LawAt w' w.heap.size (.slice a3 N c3) (.slice a4 N c4) (marks 1 N) (marks (1 + N) (N * 2))) => heldLaw_one _ _ _ N w' (by omega) h)
  rw [hM] at HQ
  have HN := Lib.hid hN
  rw [hN] at H4 q1 q2 q3 q4 ⊢
  rw [hM]
  have hM0 : (0:Int) ≤ (M:Int) := by omega
  clear hM hN
  go_wp2_with fail
  refine (HQ.out _ H4.out.l1).mono ?_
  rintro e w5 ⟨rfl, hb5⟩
  have H5 := Lib.hid (H4.out.below hb5)
  clear hb5 q1 q2 q3 q4 H4
  go_wp2_with fail
  refine (HI.out _).mono ?_
  rintro e w6 ⟨V2, C2, rfl, hl2, hb6⟩
  obtain ⟨a5, c5, rfl⟩ := own_shape hl2.val
  obtain ⟨a6, c6, rfl⟩ := own_shape hl2.cha
  rw [HN.out] at hl2 ⊢
  have hA : Below w6.heap.size w6 (w6.alloc (.cells #[.slice a5 N c5, .slice a6 N c6] 25)) := (Below.refl _ _).alloc (Nat.le_refl _) _
  have H6 := Lib.hid (And.intro ((H5.out.below hb6).below hA) (And.intro (hl2.below hA) (show LBox (w6.alloc (.cells #[.slice a5 N c5, .slice a6 N c6] 25)) w6.heap.size (.slice a5 N c5) (.slice a6 N c6) from heap_at_new _ _)))
  clear hl2 hb6 hA H5
  obtain ⟨q1, q2, q3, q4⟩ := H6.out.1.cells
  obtain ⟨r1, r2⟩ := H6.out.2.2.cells
  go_wp2_with fail
  refine (eqLaw_same _ _ _ _ _ _ vs fs _ (by have := HN.out; omega) H6.out.2.1 H6.out.1.l0).mono ?_
  rintro e w7 ⟨rfl, hb7⟩
  have H7 := Lib.hid (H6.out.1.below hb7)
  clear hb7 q1 q2 q3 q4 r1 r2 H6
  obtain ⟨q1, q2, q3, q4⟩ := H7.out.cells
  go_wp2_with fail
  refine (HQ.out _ H7.out.l1).mono ?_
  rintro e w8 ⟨rfl, hb8⟩
  have H8 := Lib.hid (H7.out.below hb8)
  clear hb8 q1 q2 q3 q4 H7
  go_wp2
  go_ret
  exact ⟨rfl, H8.out.bel⟩
theorem fnExactPatternLaw_walk (n : Int) (P : ByteArray) (w : World) : Calls Tryd.prog 3 #[.int .i64 n, .string P] w fun e w' => e = .returned (.bool true) ∧ Below w.heap.size w w' := by
  by_cases hP : P.size ≤ 1048576
  · cases h : (inR n 1 50 && patOk P) with
    | false => exact fnExactPatternLaw_of n P hP false [] [] w (by simp) (fun w => patI_no n P w hP h) (fun w => patS_no n P w hP h)
    | true =>
      rw [Bool.and_eq_true] at h
      have h' := h.1
      simp only [inR, Bool.and_eq_true, decide_eq_true_eq] at h'
      obtain ⟨k, rfl⟩ := Int.eq_ofNat_of_zero_le (show 0 ≤ n by omega)
      refine fnExactPatternLaw_of k P hP true (lvT 0 (cntL P.data.toList k) (k + 1)) (lfT (cntL P.data.toList k) (2 ^ k) (k + 1)) w (Nat.le_trans (lvT_len _ _ _) (by omega)) (fun w => patI_any k P w (by omega) (by omega) h.2) (fun w => ?_)
      rw [← cnt_same k h.2]
      exact patS_any k P w (by omega) (by omega) h.2
  · have hPi : (P.size : Int) > 1048576 := by omega
    have hPj : ¬ (P.size : Int) ≤ 1048576 := by omega
    clear hP
    go_enter Tryd.func3, Tryd.ntmps3
    go_wp2
    go_ret
    exact ⟨rfl, Below.refl _ _⟩
end Go.Proofs.YtlckamnadddlmaaDoor
