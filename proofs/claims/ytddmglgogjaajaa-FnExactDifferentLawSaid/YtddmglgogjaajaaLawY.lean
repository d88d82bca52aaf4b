import Derived.Test.YtddmglgogjaajaaLawX
/- The walks of the laws on functions that answer with a law, given what both sides answer. -/
namespace Go.Proofs.Ytddmglgogjaajaa
open Go.RowKit
set_option linter.unusedVariables false

set_option maxRecDepth 100000 in
set_option maxHeartbeats 3200000 in
theorem fnExactOnesLaw_of (n : Int) (ok : Bool) (vs fs : List Int) (w : World) (hl : vs.length ≤ 1000)
    (HI0 : ∀ w, Calls Try.prog 31 #[.int .i64 n] w (RetLaw w ok vs fs)) (HS0 : ∀ w, Calls Try.prog 30 #[.int .i64 n] w (RetLaw w ok vs fs)) :
    Calls Try.prog 7 #[.int .i64 n] w fun e w' => e = .returned (.bool true) ∧ Below w.heap.size w w' := by
  have HI := Lib.hid HI0
  have HS := Lib.hid HS0
  clear HI0 HS0
  go_enter Try.func7, Try.ntmps7
  go_wp2_with fail
  refine (HS.out _).mono ?_
  rintro e w1 ⟨V0, C0, rfl, hl0, hb1⟩
  obtain ⟨a1, c1, rfl⟩ := own_shape hl0.val
  obtain ⟨a2, c2, rfl⟩ := own_shape hl0.cha
  have H1 := Lib.hid (lawSt_one hl0 hb1)
  clear hl0 hb1
  obtain ⟨b0, hb0⟩ : ∃ b, w1.heap.size = b := ⟨_, rfl⟩
  rw [hb0] at H1
  have HB0 := Lib.hid hb0
  clear hb0
  go_wp2_with fail
  rw [HB0.out]
  obtain ⟨wA, hwA⟩ : ∃ w', w1.alloc (.cells #[.slice a1 vs.length c1, .slice a2 vs.length c2] 39) = w' := ⟨_, rfl⟩
  rw [hwA] at H1 ⊢
  clear hwA HB0
  refine (HI.out _).mono ?_
  rintro e w2 ⟨V1, C1, rfl, hl1, hb2⟩
  obtain ⟨a3, c3, rfl⟩ := own_shape hl1.val
  obtain ⟨a4, c4, rfl⟩ := own_shape hl1.cha
  have H2 := Lib.hid (lawSt_two H1.out hl1 hb2)
  clear hl1 hb2 H1
  obtain ⟨b1, hb1⟩ : ∃ b, w2.heap.size = b := ⟨_, rfl⟩
  rw [hb1] at H2
  have HB1 := Lib.hid hb1
  clear hb1
  obtain ⟨q1, q2, q3, q4⟩ := H2.out.cells
  go_wp2_with fail
  rw [HB1.out]
  obtain ⟨wB, hwB⟩ : ∃ w', w2.alloc (.cells #[.slice a3 vs.length c3, .slice a4 vs.length c4] 39) = w' := ⟨_, rfl⟩
  rw [hwB] at H2 q1 q2 q3 q4 ⊢
  clear hwB HB1
  refine (eqLaw_same _ _ _ _ _ _ vs fs _ (by omega) H2.out.l1 H2.out.l0).mono ?_
  rintro e w3 ⟨rfl, hb3⟩
  have H3 := Lib.hid (H2.out.below hb3)
  clear hb3 q1 q2 q3 q4 H2
  obtain ⟨q1, q2, q3, q4⟩ := H3.out.cells
  go_wp2_with fail
  refine (markLaw_one _ _ _ vs fs _ (by omega) H3.out.l1).mono ?_
  rintro e w4 ⟨rfl, hm, hk⟩
  have H4 := Lib.hid (H3.out.mark hm hk)
  clear hm hk q1 q2 q3 q4 H3
  obtain ⟨q1, q2, q3, q4⟩ := H4.out.cells
  obtain ⟨N, hN⟩ : ∃ N, vs.length = N := ⟨_, rfl⟩
  obtain ⟨M, hM⟩ : ∃ M, 1 + N + N * 2 = M := ⟨_, rfl⟩
  have HQ := Lib.hid (fun (w' : World) (h : LawAt w' w.heap.size (.slice a3 N c3) (.slice a4 N c4) (marks 1 N) (marks (1 + N) (N * 2))) => heldLaw_one _ _ _ N w' (by omega) h)
  rw [hM] at HQ
  have HN := Lib.hid hN
  rw [hN] at H4 q1 q2 q3 q4 ⊢
  rw [hM]
  have hM0 : (0:Int) ≤ (M:Int) := by omega
  clear hM hN
  go_wp2_with fail
  refine (HQ.out _ H4.out.l1).mono ?_
  rintro e w5 ⟨rfl, hb5⟩
  have H5 := Lib.hid (H4.out.below hb5)
  clear hb5 q1 q2 q3 q4 H4
  go_wp2_with fail
  refine (HI.out _).mono ?_
  rintro e w6 ⟨V2, C2, rfl, hl2, hb6⟩
  obtain ⟨a5, c5, rfl⟩ := own_shape hl2.val
  obtain ⟨a6, c6, rfl⟩ := own_shape hl2.cha
  rw [HN.out] at hl2 ⊢
  have hA : Below w6.heap.size w6 (w6.alloc (.cells #[.slice a5 N c5, .slice a6 N c6] 39)) := (Below.refl _ _).alloc (Nat.le_refl _) _
  have H6 := Lib.hid (And.intro ((H5.out.below hb6).below hA) (And.intro (hl2.below hA) (show LBox (w6.alloc (.cells #[.slice a5 N c5, .slice a6 N c6] 39)) w6.heap.size (.slice a5 N c5) (.slice a6 N c6) from heap_at_new _ _)))
  clear hl2 hb6 hA H5
  obtain ⟨q1, q2, q3, q4⟩ := H6.out.1.cells
  obtain ⟨r1, r2⟩ := H6.out.2.2.cells
  go_wp2_with fail
  refine (eqLaw_same _ _ _ _ _ _ vs fs _ (by have := HN.out; omega) H6.out.2.1 H6.out.1.l0).mono ?_
  rintro e w7 ⟨rfl, hb7⟩
  have H7 := Lib.hid (H6.out.1.below hb7)
  clear hb7 q1 q2 q3 q4 r1 r2 H6
  obtain ⟨q1, q2, q3, q4⟩ := H7.out.cells
  go_wp2_with fail
  refine (HQ.out _ H7.out.l1).mono ?_
  rintro e w8 ⟨rfl, hb8⟩
  have H8 := Lib.hid (H7.out.below hb8)
  clear hb8 q1 q2 q3 q4 H7
  go_wp2
  go_ret
  exact ⟨rfl, H8.out.bel⟩
set_option maxRecDepth 100000 in
set_option maxHeartbeats 3200000 in
theorem fnExactRunsLaw_of (n : Int) (ok : Bool) (vs fs : List Int) (w : World) (hl : vs.length ≤ 1000)
    (HI0 : ∀ w, Calls Try.prog 33 #[.int .i64 n] w (RetLaw w ok vs fs)) (HS0 : ∀ w, Calls Try.prog 32 #[.int .i64 n] w (RetLaw w ok vs fs)) :
    Calls Try.prog 8 #[.int .i64 n] w fun e w' => e = .returned (.bool true) ∧ Below w.heap.size w w' := by
  have HI := Lib.hid HI0
  have HS := Lib.hid HS0
  clear HI0 HS0
  go_enter Try.func8, Try.ntmps8
  go_wp2_with fail
  refine (HS.out _).mono ?_
  rintro e w1 ⟨V0, C0, rfl, hl0, hb1⟩
  obtain ⟨a1, c1, rfl⟩ := own_shape hl0.val
  obtain ⟨a2, c2, rfl⟩ := own_shape hl0.cha
  have H1 := Lib.hid (lawSt_one hl0 hb1)
  clear hl0 hb1
  obtain ⟨b0, hb0⟩ : ∃ b, w1.heap.size = b := ⟨_, rfl⟩
  rw [hb0] at H1
  have HB0 := Lib.hid hb0
  clear hb0
  go_wp2_with fail
  rw [HB0.out]
  obtain ⟨wA, hwA⟩ : ∃ w', w1.alloc (.cells #[.slice a1 vs.length c1, .slice a2 vs.length c2] 39) = w' := ⟨_, rfl⟩
  rw [hwA] at H1 ⊢
  clear hwA HB0
  refine (HI.out _).mono ?_
  rintro e w2 ⟨V1, C1, rfl, hl1, hb2⟩
  obtain ⟨a3, c3, rfl⟩ := own_shape hl1.val
  obtain ⟨a4, c4, rfl⟩ := own_shape hl1.cha
  have H2 := Lib.hid (lawSt_two H1.out hl1 hb2)
  clear hl1 hb2 H1
  obtain ⟨b1, hb1⟩ : ∃ b, w2.heap.size = b := ⟨_, rfl⟩
  rw [hb1] at H2
  have HB1 := Lib.hid hb1
  clear hb1
  obtain ⟨q1, q2, q3, q4⟩ := H2.out.cells
  go_wp2_with fail
  rw [HB1.out]
  obtain ⟨wB, hwB⟩ : ∃ w', w2.alloc (.cells #[.slice a3 vs.length c3, .slice a4 vs.length c4] 39) = w' := ⟨_, rfl⟩
  rw [hwB] at H2 q1 q2 q3 q4 ⊢
  clear hwB HB1
  refine (eqLaw_same _ _ _ _ _ _ vs fs _ (by omega) H2.out.l1 H2.out.l0).mono ?_
  rintro e w3 ⟨rfl, hb3⟩
  have H3 := Lib.hid (H2.out.below hb3)
  clear hb3 q1 q2 q3 q4 H2
  obtain ⟨q1, q2, q3, q4⟩ := H3.out.cells
  go_wp2_with fail
  refine (markLaw_one _ _ _ vs fs _ (by omega) H3.out.l1).mono ?_
  rintro e w4 ⟨rfl, hm, hk⟩
  have H4 := Lib.hid (H3.out.mark hm hk)
  clear hm hk q1 q2 q3 q4 H3
  obtain ⟨q1, q2, q3, q4⟩ := H4.out.cells
  obtain ⟨N, hN⟩ : ∃ N, vs.length = N := ⟨_, rfl⟩
  obtain ⟨M, hM⟩ : ∃ M, 1 + N + N * 2 = M := ⟨_, rfl⟩
  have HQ := Lib.hid (fun (w' : World) (h : LawAt w' w.heap.size (.slice a3 N c3) (.slice a4 N c4) (marks 1 N) (marks (1 + N) (N * 2))) => heldLaw_one _ _ _ N w' (by omega) h)
  rw [hM] at HQ
  have HN := Lib.hid hN
  rw [hN] at H4 q1 q2 q3 q4 ⊢
  rw [hM]
  have hM0 : (0:Int) ≤ (M:Int) := by omega
  clear hM hN
  go_wp2_with fail
  refine (HQ.out _ H4.out.l1).mono ?_
  rintro e w5 ⟨rfl, hb5⟩
  have H5 := Lib.hid (H4.out.below hb5)
  clear hb5 q1 q2 q3 q4 H4
  go_wp2_with fail
  refine (HI.out _).mono ?_
  rintro e w6 ⟨V2, C2, rfl, hl2, hb6⟩
  obtain ⟨a5, c5, rfl⟩ := own_shape hl2.val
  obtain ⟨a6, c6, rfl⟩ := own_shape hl2.cha
  rw [HN.out] at hl2 ⊢
  have hA : Below w6.heap.size w6 (w6.alloc (.cells #[.slice a5 N c5, .slice a6 N c6] 39)) := (Below.refl _ _).alloc (Nat.le_refl _) _
  have H6 := Lib.hid (And.intro ((H5.out.below hb6).below hA) (And.intro (hl2.below hA) (show LBox (w6.alloc (.cells #[.slice a5 N c5, .slice a6 N c6] 39)) w6.heap.size (.slice a5 N c5) (.slice a6 N c6) from heap_at_new _ _)))
  clear hl2 hb6 hA H5
  obtain ⟨q1, q2, q3, q4⟩ := H6.out.1.cells
  obtain ⟨r1, r2⟩ := H6.out.2.2.cells
  go_wp2_with fail
  refine (eqLaw_same _ _ _ _ _ _ vs fs _ (by have := HN.out; omega) H6.out.2.1 H6.out.1.l0).mono ?_
  rintro e w7 ⟨rfl, hb7⟩
  have H7 := Lib.hid (H6.out.1.below hb7)
  clear hb7 q1 q2 q3 q4 r1 r2 H6
  obtain ⟨q1, q2, q3, q4⟩ := H7.out.cells
  go_wp2_with fail
  refine (HQ.out _ H7.out.l1).mono ?_
  rintro e w8 ⟨rfl, hb8⟩
  have H8 := Lib.hid (H7.out.below hb8)
  clear hb8 q1 q2 q3 q4 H7
  go_wp2
  go_ret
  exact ⟨rfl, H8.out.bel⟩
set_option maxRecDepth 100000 in
set_option maxHeartbeats 3200000 in
theorem fnExactLongestLaw_of (n : Int) (ok : Bool) (vs fs : List Int) (w : World) (hl : vs.length ≤ 1000)
    (HI0 : ∀ w, Calls Try.prog 35 #[.int .i64 n] w (RetLaw w ok vs fs)) (HS0 : ∀ w, Calls Try.prog 34 #[.int .i64 n] w (RetLaw w ok vs fs)) :
    Calls Try.prog 9 #[.int .i64 n] w fun e w' => e = .returned (.bool true) ∧ Below w.heap.size w w' := by
  have HI := Lib.hid HI0
  have HS := Lib.hid HS0
  clear HI0 HS0
  go_enter Try.func9, Try.ntmps9
  go_wp2_with fail
  refine (HS.out _).mono ?_
  rintro e w1 ⟨V0, C0, rfl, hl0, hb1⟩
  obtain ⟨a1, c1, rfl⟩ := own_shape hl0.val
  obtain ⟨a2, c2, rfl⟩ := own_shape hl0.cha
  have H1 := Lib.hid (lawSt_one hl0 hb1)
  clear hl0 hb1
  obtain ⟨b0, hb0⟩ : ∃ b, w1.heap.size = b := ⟨_, rfl⟩
  rw [hb0] at H1
  have HB0 := Lib.hid hb0
  clear hb0
  go_wp2_with fail
  rw [HB0.out]
  obtain ⟨wA, hwA⟩ : ∃ w', w1.alloc (.cells #[.slice a1 vs.length c1, .slice a2 vs.length c2] 39) = w' := ⟨_, rfl⟩
  rw [hwA] at H1 ⊢
  clear hwA HB0
  refine (HI.out _).mono ?_
  rintro e w2 ⟨V1, C1, rfl, hl1, hb2⟩
  obtain ⟨a3, c3, rfl⟩ := own_shape hl1.val
  obtain ⟨a4, c4, rfl⟩ := own_shape hl1.cha
  have H2 := Lib.hid (lawSt_two H1.out hl1 hb2)
  clear hl1 hb2 H1
  obtain ⟨b1, hb1⟩ : ∃ b, w2.heap.size = b := ⟨_, rfl⟩
  rw [hb1] at H2
  have HB1 := Lib.hid hb1
  clear hb1
  obtain ⟨q1, q2, q3, q4⟩ := H2.out.cells
  go_wp2_with fail
  rw [HB1.out]
  obtain ⟨wB, hwB⟩ : ∃ w', w2.alloc (.cells #[.slice a3 vs.length c3, .slice a4 vs.length c4] 39) = w' := ⟨_, rfl⟩
  rw [hwB] at H2 q1 q2 q3 q4 ⊢
  clear hwB HB1
  refine (eqLaw_same _ _ _ _ _ _ vs fs _ (by omega) H2.out.l1 H2.out.l0).mono ?_
  rintro e w3 ⟨rfl, hb3⟩
  have H3 := Lib.hid (H2.out.below hb3)
  clear hb3 q1 q2 q3 q4 H2
  obtain ⟨q1, q2, q3, q4⟩ := H3.out.cells
  go_wp2_with fail
  refine (markLaw_one _ _ _ vs fs _ (by omega) H3.out.l1).mono ?_
  rintro e w4 ⟨rfl, hm, hk⟩
  have H4 := Lib.hid (H3.out.mark hm hk)
  clear hm hk q1 q2 q3 q4 H3
  obtain ⟨q1, q2, q3, q4⟩ := H4.out.cells
  obtain ⟨N, hN⟩ : ∃ N, vs.length = N := ⟨_, rfl⟩
  obtain ⟨M, hM⟩ : ∃ M, 1 + N + N * 2 = M := ⟨_, rfl⟩
  have HQ := Lib.hid (fun (w' : World) (h : LawAt w' w.heap.size (.slice a3 N c3) (.slice a4 N c4) (marks 1 N) (marks (1 + N) (N * 2))) => heldLaw_one _ _ _ N w' (by omega) h)
  rw [hM] at HQ
  have HN := Lib.hid hN
  rw [hN] at H4 q1 q2 q3 q4 ⊢
  rw [hM]
  have hM0 : (0:Int) ≤ (M:Int) := by omega
  clear hM hN
  go_wp2_with fail
  refine (HQ.out _ H4.out.l1).mono ?_
  rintro e w5 ⟨rfl, hb5⟩
  have H5 := Lib.hid (H4.out.below hb5)
  clear hb5 q1 q2 q3 q4 H4
  go_wp2_with fail
  refine (HI.out _).mono ?_
  rintro e w6 ⟨V2, C2, rfl, hl2, hb6⟩
  obtain ⟨a5, c5, rfl⟩ := own_shape hl2.val
  obtain ⟨a6, c6, rfl⟩ := own_shape hl2.cha
  rw [HN.out] at hl2 ⊢
  have hA : Below w6.heap.size w6 (w6.alloc (.cells #[.slice a5 N c5, .slice a6 N c6] 39)) := (Below.refl _ _).alloc (Nat.le_refl _) _
  have H6 := Lib.hid (And.intro ((H5.out.below hb6).below hA) (And.intro (hl2.below hA) (show LBox (w6.alloc (.cells #[.slice a5 N c5, .slice a6 N c6] 39)) w6.heap.size (.slice a5 N c5) (.slice a6 N c6) from heap_at_new _ _)))
  clear hl2 hb6 hA H5
  obtain ⟨q1, q2, q3, q4⟩ := H6.out.1.cells
  obtain ⟨r1, r2⟩ := H6.out.2.2.cells
  go_wp2_with fail
  refine (eqLaw_same _ _ _ _ _ _ vs fs _ (by have := HN.out; omega) H6.out.2.1 H6.out.1.l0).mono ?_
  rintro e w7 ⟨rfl, hb7⟩
  have H7 := Lib.hid (H6.out.1.below hb7)
  clear hb7 q1 q2 q3 q4 r1 r2 H6
  obtain ⟨q1, q2, q3, q4⟩ := H7.out.cells
  go_wp2_with fail
  refine (HQ.out _ H7.out.l1).mono ?_
  rintro e w8 ⟨rfl, hb8⟩
  have H8 := Lib.hid (H7.out.below hb8)
  clear hb8 q1 q2 q3 q4 H7
  go_wp2
  go_ret
  exact ⟨rfl, H8.out.bel⟩
set_option maxRecDepth 100000 in
set_option maxHeartbeats 3200000 in
theorem fnExactDifferentLaw_of (n : Int) (m : Int) (ok : Bool) (vs fs : List Int) (w : World) (hl : vs.length ≤ 1000)
    (HI0 : ∀ w, Calls Try.prog 26 #[.int .i64 n, .int .i64 m] w (RetLaw w ok vs fs)) (HS0 : ∀ w, Calls Try.prog 25 #[.int .i64 n, .int .i64 m] w (RetLaw w ok vs fs)) :
    Calls Try.prog 6 #[.int .i64 n, .int .i64 m] w fun e w' => e = .returned (.bool true) ∧ Below w.heap.size w w' := by
  have HI := Lib.hid HI0
  have HS := Lib.hid HS0
  clear HI0 HS0
  go_enter Try.func6, Try.ntmps6
  go_wp2_with fail
  refine (HS.out _).mono ?_
  rintro e w1 ⟨V0, C0, rfl, hl0, hb1⟩
  obtain ⟨a1, c1, rfl⟩ := own_shape hl0.val
  obtain ⟨a2, c2, rfl⟩ := own_shape hl0.cha
  have H1 := Lib.hid (lawSt_one hl0 hb1)
  clear hl0 hb1
  obtain ⟨b0, hb0⟩ : ∃ b, w1.heap.size = b := ⟨_, rfl⟩
  rw [hb0] at H1
  have HB0 := Lib.hid hb0
  clear hb0
  go_wp2_with fail
  rw [HB0.out]
  obtain ⟨wA, hwA⟩ : ∃ w', w1.alloc (.cells #[.slice a1 vs.length c1, .slice a2 vs.length c2] 39) = w' := ⟨_, rfl⟩
  rw [hwA] at H1 ⊢
  clear hwA HB0
  refine (HI.out _).mono ?_
  rintro e w2 ⟨V1, C1, rfl, hl1, hb2⟩
  obtain ⟨a3, c3, rfl⟩ := own_shape hl1.val
  obtain ⟨a4, c4, rfl⟩ := own_shape hl1.cha
  have H2 := Lib.hid (lawSt_two H1.out hl1 hb2)
  clear hl1 hb2 H1
  obtain ⟨b1, hb1⟩ : ∃ b, w2.heap.size = b := ⟨_, rfl⟩
  rw [hb1] at H2
  have HB1 := Lib.hid hb1
  clear hb1
  obtain ⟨q1, q2, q3, q4⟩ := H2.out.cells
  go_wp2_with fail
  rw [HB1.out]
  obtain ⟨wB, hwB⟩ : ∃ w', w2.alloc (.cells #[.slice a3 vs.length c3, .slice a4 vs.length c4] 39) = w' := ⟨_, rfl⟩
  rw [hwB] at H2 q1 q2 q3 q4 ⊢
  clear hwB HB1
  refine (eqLaw_same _ _ _ _ _ _ vs fs _ (by omega) H2.out.l1 H2.out.l0).mono ?_
  rintro e w3 ⟨rfl, hb3⟩
  have H3 := Lib.hid (H2.out.below hb3)
  clear hb3 q1 q2 q3 q4 H2
  obtain ⟨q1, q2, q3, q4⟩ := H3.out.cells
  go_wp2_with fail
  refine (markLaw_one _ _ _ vs fs _ (by omega) H3.out.l1).mono ?_
  rintro e w4 ⟨rfl, hm, hk⟩
  have H4 := Lib.hid (H3.out.mark hm hk)
  clear hm hk q1 q2 q3 q4 H3
  obtain ⟨q1, q2, q3, q4⟩ := H4.out.cells
  obtain ⟨N, hN⟩ : ∃ N, vs.length = N := ⟨_, rfl⟩
  obtain ⟨M, hM⟩ : ∃ M, 1 + N + N * 2 = M := ⟨_, rfl⟩
  have HQ := Lib.hid (fun (w' : World) (h : LawAt w' w.heap.size (.slice a3 N c3) (.slice a4 N c4) (marks 1 N) (marks (1 + N) (N * 2))) => heldLaw_one _ _ _ N w' (by omega) h)
  rw [hM] at HQ
  have HN := Lib.hid hN
  rw [hN] at H4 q1 q2 q3 q4 ⊢
  rw [hM]
  have hM0 : (0:Int) ≤ (M:Int) := by omega
  clear hM hN
  go_wp2_with fail
  refine (HQ.out _ H4.out.l1).mono ?_
  rintro e w5 ⟨rfl, hb5⟩
  have H5 := Lib.hid (H4.out.below hb5)
  clear hb5 q1 q2 q3 q4 H4
  go_wp2_with fail
  refine (HI.out _).mono ?_
  rintro e w6 ⟨V2, C2, rfl, hl2, hb6⟩
  obtain ⟨a5, c5, rfl⟩ := own_shape hl2.val
  obtain ⟨a6, c6, rfl⟩ := own_shape hl2.cha
  rw [HN.out] at hl2 ⊢
  have hA : Below w6.heap.size w6 (w6.alloc (.cells #[.slice a5 N c5, .slice a6 N c6] 39)) := (Below.refl _ _).alloc (Nat.le_refl _) _
  have H6 := Lib.hid (And.intro ((H5.out.below hb6).below hA) (And.intro (hl2.below hA) (show LBox (w6.alloc (.cells #[.slice a5 N c5, .slice a6 N c6] 39)) w6.heap.size (.slice a5 N c5) (.slice a6 N c6) from heap_at_new _ _)))
  clear hl2 hb6 hA H5
  obtain ⟨q1, q2, q3, q4⟩ := H6.out.1.cells
  obtain ⟨r1, r2⟩ := H6.out.2.2.cells
  go_wp2_with fail
  refine (eqLaw_same _ _ _ _ _ _ vs fs _ (by have := HN.out; omega) H6.out.2.1 H6.out.1.l0).mono ?_
  rintro e w7 ⟨rfl, hb7⟩
  have H7 := Lib.hid (H6.out.1.below hb7)
  clear hb7 q1 q2 q3 q4 r1 r2 H6
  obtain ⟨q1, q2, q3, q4⟩ := H7.out.cells
  go_wp2_with fail
  refine (HQ.out _ H7.out.l1).mono ?_
  rintro e w8 ⟨rfl, hb8⟩
  have H8 := Lib.hid (H7.out.below hb8)
  clear hb8 q1 q2 q3 q4 H7
  go_wp2
  go_ret
  exact ⟨rfl, H8.out.bel⟩
end Go.Proofs.Ytddmglgogjaajaa
