import Derived.Test.YtddmglgogjaajaaPairI
import Derived.Test.YtddmglgogjaajaaRejCost
/- The cost of drawing by pairs: the reference's walk and the law's. No condition. -/
namespace Go.Proofs.Ytddmglgogjaajaa
open Go.RowKit
set_option linter.unusedVariables false

set_option maxRecDepth 20000 in
set_option maxHeartbeats 3200000 in
theorem specPairCost_any (n d : Int) (w : World) : Calls Try.prog 15 #[.agg #[.int .i64 n, .int .i64 d]] w fun e w' => e = .returned (pcV n d) ∧ Below w.heap.size w w' := by
  have hA : Below w.heap.size w ((w.alloc (.cells #[.int .i64 n, .int .i64 d] 24)).alloc (.cells #[.int .i64 0, .int .i64 0] 24)) := ((Below.refl _ w).alloc (Nat.le_refl _) _).alloc (by simp) _
  have hn1 : C2 ((w.alloc (.cells #[.int .i64 n, .int .i64 d] 24)).alloc (.cells #[.int .i64 0, .int .i64 0] 24)) w.heap.size (.int .i64 n) (.int .i64 d) := (C2.new w 24 (.int .i64 n) (.int .i64 d)).all ((Below.refl _ _).alloc (Nat.le_refl _) _)
  have hn2 : C2 ((w.alloc (.cells #[.int .i64 n, .int .i64 d] 24)).alloc (.cells #[.int .i64 0, .int .i64 0] 24)) (w.heap.size + 1) (.int .i64 0) (.int .i64 0) := by have := C2.new (w.alloc (.cells #[.int .i64 n, .int .i64 d] 24)) 24 (.int .i64 0) (.int .i64 0); simpa using this
  have HA := Lib.hid (And.intro hA (And.intro hn1 hn2))
  clear hA hn1 hn2
  obtain ⟨bc, hbc⟩ : ∃ bc, (vF n d && inR n 0 d) = bc := ⟨_, rfl⟩
  have HBC := Lib.hid hbc
  by_cases hok : (vF n d && inR n 1 (d - 1)) = true
  · simp only [Bool.and_eq_true] at hok
    obtain ⟨N, M, D, rfl, rfl, hN, hV⟩ := pcN_of hok.1 hok.2
    obtain rfl : bc = true := by
      rw [← hbc, hok.1]
      have h1 := hN.sum
      simp only [inR, Bool.true_and, Bool.and_eq_true, decide_eq_true_eq]
      omega
    rw [hV, ← hN.mul]
    obtain ⟨Vf, hVf⟩ : ∃ Vf, fracV (mkRat (D : Int) N * mkRat (D : Int) M) = Vf := ⟨_, rfl⟩
    rw [hVf]
    obtain ⟨p', q', b', hform⟩ : ∃ p q b, Vf = .tuple #[.agg #[.int .i64 p, .int .i64 q], .bool b] := by rw [← hVf, hN.mul, ← hV]; exact pcV_form _ _
    have HVf := Lib.hid (hVf.trans hform)
    rw [hform]
    have hN0 : ¬ (N : Int) = 0 := by have := hN.n0; omega
    have hND : ¬ (N : Int) = (D : Int) := by have := hN.m0; have := hN.sum; omega
    have hN0b : ((N : Int) == 0) = false := by rw [beq_eq_false_iff_ne]; exact hN0
    have hNDb : ((N : Int) == (D : Int)) = false := by rw [beq_eq_false_iff_ne]; exact hND
    have hDM : IntKind.i64.wrap ((D : Int) - (N : Int)) = (M : Int) := by
      have := hN.sum; have := hN.d1
      rw [IntWalk.i64_in _ (by omega)]
      omega
    have HN := Lib.hid hN
    have g1 : Nat.gcd (D : Int).natAbs N = 1 := by rw [Int.natAbs_natCast, Nat.gcd_comm]; exact hN.g
    have g2 : Nat.gcd (D : Int).natAbs M = 1 := by rw [Int.natAbs_natCast, Nat.gcd_comm]; exact hN.g2
    have hs := hN.sum
    have hd := hN.d1
    have hn0 := hN.n0
    have hm0 := hN.m0
    obtain ⟨f1, f2⟩ := rat_of (p := (D : Int)) (q := N) (Nat.ne_of_gt hn0) g1
    obtain ⟨f3, f4⟩ := rat_of (p := (D : Int)) (q := M) (Nat.ne_of_gt hm0) g2
    have HM1 := Lib.hid (fun (w : World) => l01FMake_any (D : Int) N w (by omega) (by omega) (by omega) hn0)
    have HM2 := Lib.hid (fun (w : World) => l01FMake_any (D : Int) M w (by omega) (by omega) (by omega) hm0)
    rw [f1, f2] at HM1
    rw [f3, f4] at HM2
    have HML := Lib.hid (fun (w : World) => l01FMul_any (D : Int) (D : Int) N M w (by omega) (by omega) hn0 (by omega) hm0 (by omega) g1 g2)
    rw [HVf.out] at HML
    clear hbc hok hV hVf hform hN g1 g2 hs hd hn0 hm0 f1 f2 f3 f4
    go_enter Try.func15, Try.ntmps15
    go_wp2_with fail
    refine (l06Chance_any _ _ _).mono ?_
    rintro e w1 ⟨rfl, hb⟩
    rw [HBC.out]
    have H1 := Lib.hid (And.intro (bthen HA.out.1 hb) (And.intro (HA.out.2.1.all hb) (HA.out.2.2.all hb)))
    obtain ⟨y0, y1, _, _, _⟩ := H1.out.2.1
    clear hb HA
    go_wp2_with fail
    refine (HM1.out _).mono ?_
    rintro e w2 ⟨rfl, hb⟩
    have H2 := Lib.hid (And.intro (bthen H1.out.1 hb) (And.intro (H1.out.2.1.all hb) (H1.out.2.2.all hb)))
    clear y0 y1 hb H1
    obtain ⟨y0, y1, _, _, y2⟩ := H2.out.2.1
    go_wp2_with fail
    have hb3 : Below w2.heap.size w2 (w2.alloc (.cells #[.int .i64 (D : Int), .int .i64 (N : Int)] 24)) := (Below.refl _ w2).alloc (Nat.le_refl _) _
    have hn3 := C2.new w2 24 (.int .i64 (D : Int)) (.int .i64 (N : Int))
    obtain ⟨w3, hw3⟩ : ∃ w', w2.alloc (.cells #[.int .i64 (D : Int), .int .i64 (N : Int)] 24) = w' := ⟨_, rfl⟩
    rw [hw3] at hb3 hn3 ⊢
    refine (HM2.out _).mono ?_
    rintro e w4 ⟨rfl, hb⟩
    have hb24 := bthen hb3 hb
    have H4 := Lib.hid (And.intro (bthen H2.out.1 hb24) (And.intro (hn3.all hb) (H2.out.2.2.all hb24)))
    have hlt2 : w.heap.size + 1 < w2.heap.size := H2.out.2.2.lt
    obtain ⟨b2, hb2e⟩ : ∃ b, w2.heap.size = b := ⟨_, rfl⟩
    rw [hb2e] at H4 hlt2 ⊢
    clear y0 y1 y2 hb hb24 hw3 hb3 hn3 hb2e H2
    obtain ⟨k0, k1, _, _, k4⟩ := H4.out.2.1
    obtain ⟨g0, g1, g2, g3, g4⟩ := H4.out.2.2
    go_wp2_with fail
    have hb5 : Below w4.heap.size w4 (w4.alloc (.cells #[.int .i64 (D : Int), .int .i64 (M : Int)] 24)) := (Below.refl _ w4).alloc (Nat.le_refl _) _
    refine (HML.out _).mono ?_
    rintro e w5 ⟨rfl, hb⟩
    have hb45 := bthen hb5 hb
    have H5 := Lib.hid (And.intro (bthen H4.out.1 hb45) (H4.out.2.2.all hb45))
    clear k0 k1 k4 g0 g1 g2 g3 g4 hb5 hb hb45 H4
    obtain ⟨g0, g1, g2, g3, g4⟩ := H5.out.2
    go_wp2_with fail
    refine bodyPost_ret (v := .tuple #[.agg #[.int .i64 p', .int .i64 q'], .bool b']) (by simp [results, Try.results15, go_sem, *]) rfl ⟨rfl, ?_⟩
    exact (H5.out.1.setCell (p := ⟨w.heap.size + 1, 0, none⟩) (by show w.heap.size ≤ w.heap.size + 1; omega) _).setCell (p := ⟨w.heap.size + 1, 1, none⟩) (by show w.heap.size ≤ w.heap.size + 1; omega) _
  · have HV := Lib.hid (show pcV n d = .tuple #[.agg #[.int .i64 0, .int .i64 0], .bool false] by unfold pcV; rw [if_neg hok])
    cases bc with
    | false =>
      clear hok hbc
      go_enter Try.func15, Try.ntmps15
      go_wp2_with fail
      refine (l06Chance_any _ _ _).mono ?_
      rintro e w1 ⟨rfl, hb⟩
      rw [HBC.out]
      have H1 := Lib.hid (And.intro (bthen HA.out.1 hb) (HA.out.2.2.all hb))
      obtain ⟨g0, g1, g2, g3, g4⟩ := H1.out.2
      clear hb
      go_wp2_with fail
      refine bodyPost_ret (v := .tuple #[.agg #[.int .i64 0, .int .i64 0], .bool false]) (by simp [results, Try.results15, go_sem, *]) rfl ⟨by rw [HV.out], ?_⟩
      exact (H1.out.1.setCell (p := ⟨w.heap.size + 1, 0, none⟩) (by show w.heap.size ≤ w.heap.size + 1; omega) _).setCell (p := ⟨w.heap.size + 1, 1, none⟩) (by show w.heap.size ≤ w.heap.size + 1; omega) _
    | true =>
      simp only [inR, Bool.and_eq_true, decide_eq_true_eq] at hbc hok
      by_cases h0 : n = 0
      · subst h0
        clear hok hbc
        go_enter Try.func15, Try.ntmps15
        go_wp2_with fail
        refine (l06Chance_any _ _ _).mono ?_
        rintro e w1 ⟨rfl, hb⟩
        rw [HBC.out]
        have H1 := Lib.hid (And.intro (bthen HA.out.1 hb) (And.intro (HA.out.2.1.all hb) (HA.out.2.2.all hb)))
        obtain ⟨y0, y1, _, _, _⟩ := H1.out.2.1
        obtain ⟨g0, g1, g2, g3, g4⟩ := H1.out.2.2
        clear hb
        go_wp2_with fail
        refine bodyPost_ret (v := .tuple #[.agg #[.int .i64 0, .int .i64 0], .bool false]) (by simp [results, Try.results15, go_sem, *]) rfl ⟨by rw [HV.out], ?_⟩
        exact (H1.out.1.setCell (p := ⟨w.heap.size + 1, 0, none⟩) (by show w.heap.size ≤ w.heap.size + 1; omega) _).setCell (p := ⟨w.heap.size + 1, 1, none⟩) (by show w.heap.size ≤ w.heap.size + 1; omega) _
      · obtain rfl : n = d := by
          refine Classical.byContradiction fun hne => hok ⟨hbc.1, ?_, ?_⟩ <;> omega
        have h0b : (n == 0) = false := by rw [beq_eq_false_iff_ne]; exact h0
        clear hok hbc
        go_enter Try.func15, Try.ntmps15
        go_wp2_with fail
        refine (l06Chance_any _ _ _).mono ?_
        rintro e w1 ⟨rfl, hb⟩
        rw [HBC.out]
        have H1 := Lib.hid (And.intro (bthen HA.out.1 hb) (And.intro (HA.out.2.1.all hb) (HA.out.2.2.all hb)))
        obtain ⟨y0, y1, _, _, _⟩ := H1.out.2.1
        obtain ⟨g0, g1, g2, g3, g4⟩ := H1.out.2.2
        clear hb
        go_wp2_with fail
        refine bodyPost_ret (v := .tuple #[.agg #[.int .i64 0, .int .i64 0], .bool false]) (by simp [results, Try.results15, go_sem, *]) rfl ⟨by rw [HV.out], ?_⟩
        exact (H1.out.1.setCell (p := ⟨w.heap.size + 1, 0, none⟩) (by show w.heap.size ≤ w.heap.size + 1; omega) _).setCell (p := ⟨w.heap.size + 1, 1, none⟩) (by show w.heap.size ≤ w.heap.size + 1; omega) _
set_option maxHeartbeats 1600000 in
theorem fnExactPairCost_walk (n d : Int) (w : World) :
    Calls Try.prog 3 #[.agg #[.int .i64 n, .int .i64 d]] w fun e w' => e = .returned (.bool true) ∧ Below w.heap.size w w' := by
  obtain ⟨p, q, b, hv⟩ := pcV_form n d
  have H1 := Lib.hid (fun w => specPairCost_any n d w)
  have H2 := Lib.hid (fun w => pairCost_any n d w)
  rw [hv] at H1 H2
  clear hv
  go_enter Try.func3, Try.ntmps3
  go_wp2_with fail
  have K0 := Lib.hid (And.intro ((Below.refl _ w).alloc (Nat.le_refl _) (.cells #[.int .i64 n, .int .i64 d] 23)) (C2.new w 23 (.int .i64 n) (.int .i64 d)))
  refine (toFraction_any n d _).mono ?_
  rintro e w1 ⟨rfl, hb⟩
  have K1 := Lib.hid (And.intro (bthen K0.out.1 hb) (K0.out.2.all hb))
  clear hb K0
  go_wp2_with fail
  refine (H1.out _).mono ?_
  rintro e w2 ⟨rfl, hb⟩
  have K2 := Lib.hid (And.intro (bthen K1.out.1 hb) (K1.out.2.all hb))
  have hlt : w.heap.size < w2.heap.size := K2.out.2.lt
  clear hb K1
  obtain ⟨y0, y1, _, _, _⟩ := K2.out.2
  go_wp2_with fail
  have hb3 : Below w2.heap.size w2 (w2.alloc (.cells #[.int .i64 p, .int .i64 q] 24)) := (Below.refl _ w2).alloc (Nat.le_refl _) _
  have hn3 := C2.new w2 24 (.int .i64 p) (.int .i64 q)
  obtain ⟨w3, hw3⟩ : ∃ w', w2.alloc (.cells #[.int .i64 p, .int .i64 q] 24) = w' := ⟨_, rfl⟩
  rw [hw3] at hb3 hn3 ⊢
  have K3 := Lib.hid (And.intro (bthen K2.out.1 hb3) (And.intro (K2.out.2.all hb3) hn3))
  obtain ⟨b2, hb2e⟩ : ∃ b, w2.heap.size = b := ⟨_, rfl⟩
  rw [hb2e] at K3 hlt ⊢
  clear hw3 hb3 hn3 hb2e K2
  refine (toFraction_any n d _).mono ?_
  rintro e w4 ⟨rfl, hb⟩
  have K4 := Lib.hid (And.intro (bthen K3.out.1 hb) (K3.out.2.2.all hb))
  clear hb K3 y0 y1
  go_wp2_with fail
  refine (H2.out _).mono ?_
  rintro e w5 ⟨rfl, hb⟩
  have K5 := Lib.hid (And.intro (bthen K4.out.1 hb) (K4.out.2.all hb))
  clear hb K4
  have hlt5 : b2 < w5.heap.size := K5.out.2.lt
  have hb6 : Below w5.heap.size w5 (w5.alloc (.cells #[.int .i64 p, .int .i64 q] 24)) := (Below.refl _ w5).alloc (Nat.le_refl _) _
  obtain ⟨u0, u1, _, _, _⟩ := K5.out.2.all hb6
  have K6 := Lib.hid (bthen K5.out.1 hb6)
  clear hb6 K5
  go_wp2_with fail
  refine (eqFraction_same p q _).mono ?_
  rintro e w7 ⟨rfl, hb7⟩
  have K7 := Lib.hid (bthen K6.out hb7)
  clear hb7
  go_wp2_with fail
  go_ret
  exact ⟨rfl, K7.out⟩
end Go.Proofs.Ytddmglgogjaajaa
