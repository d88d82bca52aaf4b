import Derived.Test.YtpineiocjaajnaaDoorPairC
/- The cost of drawing by pairs: the program's walk. No condition. -/
namespace Go.Proofs.YtpineiocjaajnaaDoor
open Go.RowKit
set_option linter.unusedVariables false

set_option maxRecDepth 20000 in
set_option maxHeartbeats 6400000 in
theorem pairCost_any (n d : Int) (w : World) : Calls Tryd.prog 24 #[.agg #[.int .i64 n, .int .i64 d]] w fun e w' => e = .returned (pcV n d) ∧ Below w.heap.size w w' := by
  have hA : Below w.heap.size w ((w.alloc (.cells #[.int .i64 n, .int .i64 d] 49)).alloc (.cells #[.int .i64 0, .int .i64 0] 49)) := ((Below.refl _ w).alloc (Nat.le_refl _) _).alloc (by simp) _
  cases hv : vF n d with
  | false =>
    have HV := Lib.hid (show pcV n d = .tuple #[.agg #[.int .i64 0, .int .i64 0], .bool false] by unfold pcV; rw [hv]; rfl)
    have HVF := Lib.hid hv
    have HA := Lib.hid hA
    clear hv hA
    go_enter Tryd.func24, Tryd.ntmps24
    go_wp2_with fail
    refine (validFraction_any _ _ _).mono ?_
    rintro e w1 ⟨rfl, hb⟩
    rw [HVF.out]
    have hn : C2 ((w.alloc (.cells #[.int .i64 n, .int .i64 d] 49)).alloc (.cells #[.int .i64 0, .int .i64 0] 49)) (w.heap.size + 1) (.int .i64 0) (.int .i64 0) := by have := C2.new (w.alloc (.cells #[.int .i64 n, .int .i64 d] 49)) 49 (.int .i64 0) (.int .i64 0); simpa using this
    obtain ⟨g0, g1, g2, g3, g4⟩ := hn.all hb
    have Hb := Lib.hid (bthen HA.out hb)
    clear hb hn
    go_wp2_with fail
    refine bodyPost_ret (v := .tuple #[.agg #[.int .i64 0, .int .i64 0], .bool false]) (by simp [results, Tryd.results24, go_sem, *]) rfl ⟨by rw [HV.out], ?_⟩
    exact (Hb.out.setCell (p := ⟨w.heap.size + 1, 0, none⟩) (by show w.heap.size ≤ w.heap.size + 1; omega) _).setCell (p := ⟨w.heap.size + 1, 1, none⟩) (by show w.heap.size ≤ w.heap.size + 1; omega) _
  | true =>
    have hd0 := (vF_iff.1 hv).1
    have hwd : IntKind.i64.wrap (d - 1) = d - 1 := IntWalk.i64_in _ (by omega)
    have hn1 : C2 ((w.alloc (.cells #[.int .i64 n, .int .i64 d] 49)).alloc (.cells #[.int .i64 0, .int .i64 0] 49)) w.heap.size (.int .i64 n) (.int .i64 d) := (C2.new w 49 (.int .i64 n) (.int .i64 d)).all ((Below.refl _ _).alloc (Nat.le_refl _) _)
    have hn2 : C2 ((w.alloc (.cells #[.int .i64 n, .int .i64 d] 49)).alloc (.cells #[.int .i64 0, .int .i64 0] 49)) (w.heap.size + 1) (.int .i64 0) (.int .i64 0) := by have := C2.new (w.alloc (.cells #[.int .i64 n, .int .i64 d] 49)) 49 (.int .i64 0) (.int .i64 0); simpa using this
    have HVF := Lib.hid hv
    have HA := Lib.hid (And.intro hA (And.intro hn1 hn2))
    cases hr : inR n 1 (d - 1) with
    | false =>
      have HV := Lib.hid (And.intro hr (show pcV n d = .tuple #[.agg #[.int .i64 0, .int .i64 0], .bool false] by unfold pcV; rw [hv, hr]; rfl))
      clear hv hA hd0 hr hn1 hn2
      go_enter Tryd.func24, Tryd.ntmps24
      go_wp2_with fail
      refine (validFraction_any _ _ _).mono ?_
      rintro e w1 ⟨rfl, hb⟩
      rw [HVF.out]
      have H1 := Lib.hid (And.intro (bthen HA.out.1 hb) (And.intro (HA.out.2.1.all hb) (HA.out.2.2.all hb)))
      obtain ⟨y0, y1, _, _, _⟩ := H1.out.2.1
      obtain ⟨g0, g1, g2, g3, g4⟩ := H1.out.2.2
      clear hb
      go_wp2_with fail
      refine (inRange_any _ _ _ _).mono ?_
      rintro e w2 ⟨rfl, rfl⟩
      rw [HV.out.1]
      go_wp2_with fail
      refine bodyPost_ret (v := .tuple #[.agg #[.int .i64 0, .int .i64 0], .bool false]) (by simp [results, Tryd.results24, go_sem, *]) rfl ⟨by rw [HV.out.2], ?_⟩
      exact (H1.out.1.setCell (p := ⟨w.heap.size + 1, 0, none⟩) (by show w.heap.size ≤ w.heap.size + 1; omega) _).setCell (p := ⟨w.heap.size + 1, 1, none⟩) (by show w.heap.size ≤ w.heap.size + 1; omega) _
    | true =>
      obtain ⟨N, M, D, rfl, rfl, hN, hV⟩ := pcN_of hv hr
      have HR := Lib.hid hr
      rw [hV]
      obtain ⟨Vf, hVf⟩ : ∃ Vf, fracV (pcR N M D) = Vf := ⟨_, rfl⟩
      rw [hVf]
      obtain ⟨p', q', b', hform⟩ : ∃ p q b, Vf = .tuple #[.agg #[.int .i64 p, .int .i64 q], .bool b] := by rw [← hVf, ← hV]; exact pcV_form _ _
      have HVf := Lib.hid (hVf.trans hform)
      rw [hform]
      have hN1 : N < 1000000000000000000 := by have := hN.sum; have := hN.d1; have := hN.m0; omega
      have hM1 : M < 1000000000000000000 := by have := hN.sum; have := hN.d1; have := hN.n0; omega
      have hD1 := hN.d1
      have k1 : N * M < 2 ^ 256 := Nat.lt_of_lt_of_le (Nat.mul_lt_mul'' hN1 hM1) (by decide)
      have k2 : D * D < 2 ^ 256 := Nat.lt_of_le_of_lt (Nat.mul_le_mul hD1 hD1) (by decide)
      have HN := Lib.hid (And.intro hN (And.intro (dlen8 (n := N) (by omega)) (And.intro (dlen8 (n := M) (by omega)) (And.intro (dlen8 (n := D) (by omega)) (And.intro (dlen8 k1) (And.intro (dlen8 k2) (dlen8 (n := 1) (by decide))))))))
      have HL := Lib.hid (And.intro hN1 (And.intro hM1 hD1))
      clear hv hA hd0 hr hn1 hn2 hV hVf hform hN1 hM1 hD1 k1 k2 hN
      go_enter Tryd.func24, Tryd.ntmps24
      go_wp2_with fail
      refine (validFraction_any _ _ _).mono ?_
      rintro e w1 ⟨rfl, hb⟩
      rw [HVF.out]
      have H1 := Lib.hid (And.intro (bthen HA.out.1 hb) (And.intro (HA.out.2.1.all hb) (HA.out.2.2.all hb)))
      obtain ⟨y0, y1, _, _, _⟩ := H1.out.2.1
      clear hb HA
      go_wp2_with fail
      refine (inRange_any _ _ _ _).mono ?_
      rintro e w2 ⟨rfl, rfl⟩
      rw [HR.out]
      go_wp2_with fail
      refine (ratioOf_rat N D _ (by have := HL.out.1; omega) (by have := HL.out.2.2; omega) HN.out.1.d0 HN.out.1.g).mono ?_
      rintro e w3 ⟨sg, a1, c1, l1, a2, c2, l2, rfl, hv, hb, hs⟩
      obtain ⟨e1, e2⟩ := rat_of (p := (N : Int)) (q := D) (Nat.ne_of_gt HN.out.1.d0) (by rw [Int.natAbs_natCast]; exact HN.out.1.g)
      rw [e1, e2, Int.natAbs_natCast] at hv
      obtain rfl : sg = false := by rw [hs, e1]; exact decide_eq_false (by omega)
      have H3 := Lib.hid (And.intro hv (And.intro (bthen H1.out.1 hb) (H1.out.2.2.all hb)))
      clear hv hb hs e1 e2 y0 y1
      go_wp2_with fail
      have hb4 : Below w3.heap.size w3 (w3.alloc (.cells #[.bool false, .slice a1 l1 c1, .slice a2 l2 c2] 93)) := (Below.refl _ w3).alloc (Nat.le_refl _) _
      have hn4 := C3.new w3 93 (.bool false) (.slice a1 l1 c1) (.slice a2 l2 c2)
      obtain ⟨w4, hw4⟩ : ∃ w', w3.alloc (.cells #[.bool false, .slice a1 l1 c1, .slice a2 l2 c2] 93) = w' := ⟨_, rfl⟩
      rw [hw4] at hb4 hn4 ⊢
      have H4 := Lib.hid (And.intro (H3.out.1.below hb4) (And.intro hn4 (And.intro (bthen H3.out.2.1 hb4) (H3.out.2.2.all hb4))))
      have hlt : w.heap.size + 1 < w3.heap.size := H3.out.2.2.lt
      obtain ⟨b4, hb4e⟩ : ∃ b, w3.heap.size = b := ⟨_, rfl⟩
      rw [hb4e] at H4 hlt ⊢
      clear hw4 hb4 hn4 hb4e H3 H1
      obtain ⟨z0, z1, z2, _, _, _, z6⟩ := H4.out.2.1
      obtain ⟨g0, g1, g2, g3, g4⟩ := H4.out.2.2.2
      have hne : w.heap.size + 1 ≠ b4 := by omega
      have hne' : b4 ≠ w.heap.size + 1 := by omega
      have HS := Lib.hid (And.intro H4.out.1.e1 H4.out.1.e2)
      go_region_held3 (fun w' => w'.cell? ⟨b4, 0, none⟩ = some (.bool false) ∧ w'.cell? ⟨b4, 1, none⟩ = some (.slice a1 l1 c1) ∧ w'.cell? ⟨b4, 2, none⟩ = some (.slice a2 l2 c2) ∧
          w'.cell? ⟨w.heap.size + 1, 0, none⟩ = some (oldVal w' ⟨w.heap.size + 1, 0, none⟩) ∧ w'.cell? ⟨w.heap.size + 1, 1, none⟩ = some (oldVal w' ⟨w.heap.size + 1, 1, none⟩) ∧ w'.frozen? ⟨w.heap.size + 1, 0, none⟩ = false ∧ w'.frozen? ⟨w.heap.size + 1, 1, none⟩ = false ∧ b4 < w'.heap.size ∧ w.heap.size + 1 < w'.heap.size)
        ((repeat' refine And.intro ?_ ?_) <;> first | (go_keep; done) | (refine oldVal_of ?_; (repeat refine some_set ?_); go_keep; done) | (go_keep; omega))
        (first
          | (go_at_call 58; (fail_if_success (have := hX1)); refine (retP_of (r := 1) (n := 1) (d := 1) (b0 := b4) (b1 := b4) (b := w.heap.size + 1) rfl rfl (whole_one _) ?_ ?_ ?_).mono ?_; (first | omega | (simp [*]; done) | (simp [*]; omega)); (first | omega | (simp [*]; done) | (simp [*]; omega)); (first | omega | (simp [*]; done) | (simp [*]; omega)); rintro e w5 ⟨x1, i1, j1, x2, i2, j2, rfl, hX1, p0, p1, p2, p3, p4, p5, p6⟩)
          | (go_at_call 58; refine (retP_of (r := 1) (n := 1) (d := 1) (b0 := b4) (b1 := b4) (b := w.heap.size + 1) rfl rfl (whole_one _) ?_ ?_ ?_).mono ?_; (first | omega | (simp [*]; done) | (simp [*]; omega)); (first | omega | (simp [*]; done) | (simp [*]; omega)); (first | omega | (simp [*]; done) | (simp [*]; omega)); rintro e w6 ⟨x3, i3, j3, x4, i4, j4, rfl, hX2, r0, r1, r2, r3, r4, r5, r6⟩)
          | (go_at_call 61; refine (retP_of (n := M) (d := D) (b0 := b4) (b1 := b4) (b := w.heap.size + 1) HN.out.1.one.1 HN.out.1.one.2 (minusR_raw false false x3 x4 a1 a2 i3 i4 c1 c2 j3 j4 l1 l2 1 1 N D _ hX2.out.1 (H4.out.1.below (bthen (bthen (Below.refl _ w4).drew hX1.out.2) hX2.out.2)) (by rw [← hX2.out.1.e1]; have := HN.out.2.2.2.2.2.2; omega) (by rw [← hX2.out.1.e2]; have := HN.out.2.2.2.2.2.2; omega) (by rw [← HS.out.1]; have := HN.out.2.1; omega) (by rw [← HS.out.2]; have := HN.out.2.2.2.1; omega) (by decide) HN.out.1.d0) ?_ ?_ ?_).mono ?_; (first | omega | (simp [*]; done) | (simp [*]; omega)); (first | omega | (simp [*]; done) | (simp [*]; omega)); (first | omega | (simp [*]; done) | (simp [*]; omega)); rintro e w7 ⟨x5, i5, j5, x6, i6, j6, rfl, hX3, s0, s1, s2, s3, s4, s5, s6⟩)
          | (go_at_call 60; refine (retP_of (n := N * M) (d := D * D) (b0 := b4) (b1 := b4) (b := w.heap.size + 1) HN.out.1.two.1 HN.out.1.two.2 (timesR_raw false false a1 a2 x5 x6 c1 c2 i5 i6 l1 l2 j5 j6 N D M D _ (H4.out.1.below (bthen (bthen (bthen (Below.refl _ w4).drew hX1.out.2) hX2.out.2) hX3.out.2)) hX3.out.1 (by rw [← HS.out.1]; have := HN.out.2.1; omega) (by rw [← HS.out.2]; have := HN.out.2.2.2.1; omega) (by rw [← hX3.out.1.e1]; have := HN.out.2.2.1; omega) (by rw [← hX3.out.1.e2]; have := HN.out.2.2.2.1; omega) HN.out.1.d0 HN.out.1.d0) ?_ ?_ ?_).mono ?_; (first | omega | (simp [*]; done) | (simp [*]; omega)); (first | omega | (simp [*]; done) | (simp [*]; omega)); (first | omega | (simp [*]; done) | (simp [*]; omega)); rintro e w8 ⟨x7, i7, j7, x8, i8, j8, rfl, hX4, t0, t1, t2, t3, t4, t5, t6⟩)
          | (go_at_call 59; refine (retP_of (n := D * D) (d := N * M) (b0 := b4) (b1 := b4) (b := w.heap.size + 1) HN.out.1.three.1 HN.out.1.three.2 (overR_raw false false x1 x2 x7 x8 i1 i2 i7 i8 j1 j2 j7 j8 1 1 (N * M) (D * D) _ (hX1.out.1.below (bthen (bthen hX2.out.2 hX3.out.2) hX4.out.2)) hX4.out.1 (by rw [← hX1.out.1.e1]; have := HN.out.2.2.2.2.2.2; omega) (by rw [← hX1.out.1.e2]; have := HN.out.2.2.2.2.2.2; omega) (by rw [← hX4.out.1.e1]; have := HN.out.2.2.2.2.1; omega) (by rw [← hX4.out.1.e2]; have := HN.out.2.2.2.2.2.1; omega) (by decide) (Nat.mul_pos HN.out.1.n0 HN.out.1.m0)) ?_ ?_ ?_).mono ?_; (first | omega | (simp [*]; done) | (simp [*]; omega)); (first | omega | (simp [*]; done) | (simp [*]; omega)); (first | omega | (simp [*]; done) | (simp [*]; omega)); rintro e w9 ⟨x9, i9, j9, y1, m9, n9, rfl, hX5, v0, v1, v2, v3, v4, v5, v6⟩)
          | (go_at_call 62; refine (kept3_of (b0 := b4) (b1 := b4) (b2 := w.heap.size + 1) (fraction_raw (pcR N M D) x9 y1 i9 m9 j9 n9 (D * D) (N * M) _ HN.out.1.three.1 HN.out.1.three.2 hX5.out.1 (by rw [← hX5.out.1.e1]; have := HN.out.2.2.2.2.2.1; omega) (by rw [← hX5.out.1.e2]; have := HN.out.2.2.2.2.1; omega)) ?_ ?_ ?_).mono ?_; (first | omega | (simp [*]; done) | (simp [*]; omega)); (first | omega | (simp [*]; done) | (simp [*]; omega)); (first | omega | (simp [*]; done) | (simp [*]; omega)); rintro e w10 ⟨rfl, hX6, u0, u1, u2, u3, u4, u5, u6⟩; rw [HVf.out]))
      go_wp2_with fail
      rename_i hHeld
      clear hHeld
      refine bodyPost_ret (v := .tuple #[.agg #[.int .i64 p', .int .i64 q'], .bool b']) (by simp [results, Tryd.results24, go_sem, *]) rfl ⟨rfl, ?_⟩
      have hb : Below w.heap.size w w10 := bthen H4.out.2.2.1 (bthen (bthen (bthen (bthen (bthen (bthen (Below.refl _ w4).drew hX1.out.2) hX2.out.2) hX3.out.2) hX4.out.2) hX5.out.2) hX6.out)
      exact (hb.setCell (p := ⟨w.heap.size + 1, 0, none⟩) (by show w.heap.size ≤ w.heap.size + 1; omega) _).setCell (p := ⟨w.heap.size + 1, 1, none⟩) (by show w.heap.size ≤ w.heap.size + 1; omega) _
end Go.Proofs.YtpineiocjaajnaaDoor
