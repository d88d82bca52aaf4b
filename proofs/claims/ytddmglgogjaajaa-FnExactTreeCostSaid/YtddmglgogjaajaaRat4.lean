import Derived.Test.YtddmglgogjaajaaRat3
/- Ratios: the quotient, the opposite. Condition: the digits' lengths stay below 2 to the power of 27. -/
namespace Go.Proofs.Ytddmglgogjaajaa
open Go.RowKit
set_option linter.unusedVariables false

set_option maxRecDepth 20000 in
set_option maxHeartbeats 1600000 in
theorem overR_raw (s1 s2 : Bool) (a1 a2 b1 b2 : Option Addr) (c1 c2 k1 k2 l1 l2 m1 m2 n1 d1 n2 d2 : Nat) (w : World) (h1 : RawV w a1 a2 l1 l2 n1 d1) (h2 : RawV w b1 b2 m1 m2 n2 d2) (q1 : l1 < 134217728) (q2 : l2 < 134217728) (q3 : m1 < 134217728) (q4 : m2 < 134217728) (hd1 : 0 < d1) (hn2 : 0 < n2) :
    Calls Try.prog 55 #[.agg #[.bool s1, .slice a1 l1 c1, .slice a2 l2 c2], .agg #[.bool s2, .slice b1 m1 k1, .slice b2 m2 k2]] w (RetR w (mkRat (sgn (s1 != s2) (n1 * d2)) (d1 * n2))) := by
  have HA : Below w.heap.size w (((w.alloc (.cells #[.bool s1, .slice a1 l1 c1, .slice a2 l2 c2] 63)).alloc (.cells #[.bool s2, .slice b1 m1 k1, .slice b2 m2 k2] 63)).alloc (.cells #[.bool false, .slice none 0 0, .slice none 0 0] 63)) := (((Below.refl _ w).alloc (Nat.le_refl _) _).alloc (by simp) _).alloc (by simp only [alloc_size]; omega) _
  obtain ⟨t0, t1, t2⟩ := three_boxes w (.cells #[.bool s1, .slice a1 l1 c1, .slice a2 l2 c2] 63) (.cells #[.bool s2, .slice b1 m1 k1, .slice b2 m2 k2] 63) (.cells #[.bool false, .slice none 0 0, .slice none 0 0] 63)
  obtain ⟨⟨z0, z1, z2⟩, _⟩ := tri_cells t0
  obtain ⟨⟨z3, z4, z5⟩, _⟩ := tri_cells t1
  obtain ⟨⟨z6, z7, z8⟩, z9, z10, z11⟩ := tri_cells t2
  obtain ⟨wS, hwS⟩ : ∃ w', (((w.alloc (.cells #[.bool s1, .slice a1 l1 c1, .slice a2 l2 c2] 63)).alloc (.cells #[.bool s2, .slice b1 m1 k1, .slice b2 m2 k2] 63)).alloc (.cells #[.bool false, .slice none 0 0, .slice none 0 0] 63)) = w' := ⟨_, rfl⟩
  have zs : wS.heap.size = w.heap.size + 1 + 1 + 1 := by rw [← hwS]; simp only [alloc_size]
  rw [hwS] at z0 z1 z2 z3 z4 z5 z6 z7 z8 z9 z10 z11 HA
  have HC := Lib.hid (timesR_raw s1 s2 a1 a2 b2 b1 c1 c2 k2 k1 l1 l2 m2 m1 n1 d1 d2 n2 wS (h1.below HA) ⟨h2.e2, h2.e1, (h2.below HA).r2, (h2.below HA).r1⟩ q1 q2 q4 q3 hd1 hn2)
  have H := Lib.hid HA
  clear t0 t1 t2 h1 h2 HA
  obtain ⟨R, hR⟩ : ∃ R, mkRat (sgn (s1 != s2) (n1 * d2)) (d1 * n2) = R := ⟨_, rfl⟩
  rw [hR] at HC ⊢
  clear hR
  go_enter Try.func55, Try.ntmps55
  go_wp2_with fail
  refine HC.out.mono ?_
  rintro e w1 ⟨sg, y1, u1, v1, y2, u2, v2, rfl, hv, hb, hsg⟩
  have g0 := ((bcell hb).1 (w.heap.size + 1 + 1) 0 (by omega)).trans z6
  have g1 := ((bcell hb).1 (w.heap.size + 1 + 1) 1 (by omega)).trans z7
  have g2 := ((bcell hb).1 (w.heap.size + 1 + 1) 2 (by omega)).trans z8
  have f0 := ((bcell hb).2 (w.heap.size + 1 + 1) 0 (by omega)).trans z9
  have f1 := ((bcell hb).2 (w.heap.size + 1 + 1) 1 (by omega)).trans z10
  have f2 := ((bcell hb).2 (w.heap.size + 1 + 1) 2 (by omega)).trans z11
  have H1 := Lib.hid (And.intro hv (And.intro (bthen H.out hb) hsg))
  clear hv hb hsg z0 z1 z2 z3 z4 z5 z6 z7 z8 z9 z10 z11
  go_wp2_with fail
  have hI : Ints w1 (set3 w1 (w.heap.size + 1 + 1) (.bool sg) (.slice y1 v1 u1) (.slice y2 v2 u2)) := ints_set3 _ _ _ (by rw [g0]; simp) (by rw [g1]; simp) (by rw [g2]; simp)
  refine bodyPost_ret (v := .agg #[.bool sg, .slice y1 v1 u1, .slice y2 v2 u2]) (by simp [results, Try.results55, go_sem, *]) rfl ⟨sg, y1, u1, v1, y2, u2, v2, rfl, H1.out.1.ints hI, ?_, H1.out.2.2⟩
  exact below_set3 H1.out.2.1 (by omega) _ _ _
theorem opposite_any (s : Bool) (a1 a2 : Option Addr) (l1 l2 c1 c2 : Nat) (w : World) : Calls Try.prog 120 #[.agg #[.bool s, .slice a1 l1 c1, .slice a2 l2 c2]] w fun e w' => e = .returned (.agg #[.bool (!s && decide (0 < l1)), .slice a1 l1 c1, .slice a2 l2 c2]) ∧ Below w.heap.size w w' := by
  cases s with
  | true =>
    go_enter Try.func120, Try.ntmps120
    go_wp2_with fail
    refine bodyPost_ret (v := .agg #[.bool false, .slice a1 l1 c1, .slice a2 l2 c2]) (by simp [results, Try.results120, go_sem, *]) rfl ⟨rfl, ?_⟩
    exact ((Below.refl _ w).alloc (Nat.le_refl _) _).alloc (by simp) _
  | false =>
    by_cases h : 0 < l1
    · have hl : (0:Int) < (l1:Int) := by omega
      rw [decide_eq_true h]
      go_enter Try.func120, Try.ntmps120
      go_wp2_with fail
      refine bodyPost_ret (v := .agg #[.bool true, .slice a1 l1 c1, .slice a2 l2 c2]) (by simp [results, Try.results120, go_sem, *]) rfl ⟨rfl, ?_⟩
      exact ((Below.refl _ w).alloc (Nat.le_refl _) _).alloc (by simp) _
    · obtain rfl : l1 = 0 := by omega
      go_enter Try.func120, Try.ntmps120
      go_wp2_with fail
      refine bodyPost_ret (v := .agg #[.bool false, .slice a1 0 c1, .slice a2 l2 c2]) (by simp [results, Try.results120, go_sem, *]) rfl ⟨rfl, ?_⟩
      exact ((Below.refl _ w).alloc (Nat.le_refl _) _).alloc (by simp) _
end Go.Proofs.Ytddmglgogjaajaa
