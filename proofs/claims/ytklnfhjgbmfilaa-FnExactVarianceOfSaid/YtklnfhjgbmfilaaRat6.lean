import Derived.Test.YtklnfhjgbmfilaaRat5
/- Ratios: the difference; all four ways to calculate told as rational numbers. Condition: the digits' lengths stay below 2 to the power of 26. -/
namespace Go.Proofs.Ytklnfhjgbmfilaa
open Go.RowKit
set_option linter.unusedVariables false

/-- As RetR, with three older blocks kept. -/
def RetK (w : World) (r : Rat) (b0 b1 b : Nat) (e : Ending) (w' : World) : Prop := ∃ sg a1 c1 l1 a2 c2 l2, e = .returned (.agg #[.bool sg, .slice a1 l1 c1, .slice a2 l2 c2]) ∧ Hid (RawV w' a1 a2 l1 l2 r.num.natAbs r.den ∧ Below w.heap.size w w' ∧ sg = decide (r.num < 0)) ∧
      (∀ o, w'.cell? ⟨b0, o, none⟩ = w.cell? ⟨b0, o, none⟩) ∧ (∀ o, w'.cell? ⟨b1, o, none⟩ = w.cell? ⟨b1, o, none⟩) ∧ (∀ o, w'.cell? ⟨b, o, none⟩ = w.cell? ⟨b, o, none⟩) ∧ (∀ o, w'.frozen? ⟨b, o, none⟩ = w.frozen? ⟨b, o, none⟩) ∧ b0 < w'.heap.size ∧ b1 < w'.heap.size ∧ b < w'.heap.size
theorem retK_of {P : Program} {f : Nat} {args : Array Value} {w : World} {r : Rat} {b0 b1 b : Nat} (h : Calls P f args w (RetR w r)) (q0 : b0 < w.heap.size) (q1 : b1 < w.heap.size) (q2 : b < w.heap.size) : Calls P f args w (RetK w r b0 b1 b) := by
  refine h.mono ?_
  rintro e w' ⟨sg, a1, c1, l1, a2, c2, l2, rfl, hv, hb, hs⟩
  exact ⟨sg, a1, c1, l1, a2, c2, l2, rfl, Lib.hid ⟨hv, hb, hs⟩, fun o => hb.cell (p := ⟨b0, o, none⟩) q0, fun o => hb.cell (p := ⟨b1, o, none⟩) q1, fun o => hb.cell (p := ⟨b, o, none⟩) q2, fun o => hb.frozen (p := ⟨b, o, none⟩) q2, Nat.lt_of_lt_of_le q0 hb.size, Nat.lt_of_lt_of_le q1 hb.size, Nat.lt_of_lt_of_le q2 hb.size⟩
theorem opposite_kept (s : Bool) (a1 a2 : Option Addr) (l1 l2 c1 c2 b0 b1 b : Nat) (w : World) (q0 : b0 < w.heap.size) (q1 : b1 < w.heap.size) (q2 : b < w.heap.size) : Calls Try.prog 122 #[.agg #[.bool s, .slice a1 l1 c1, .slice a2 l2 c2]] w fun e w' => ∃ t, t = (!s && decide (0 < l1)) ∧ e = .returned (.agg #[.bool t, .slice a1 l1 c1, .slice a2 l2 c2]) ∧ Hid (Below w.heap.size w w') ∧
      (∀ o, w'.cell? ⟨b0, o, none⟩ = w.cell? ⟨b0, o, none⟩) ∧ (∀ o, w'.cell? ⟨b1, o, none⟩ = w.cell? ⟨b1, o, none⟩) ∧ (∀ o, w'.cell? ⟨b, o, none⟩ = w.cell? ⟨b, o, none⟩) ∧ (∀ o, w'.frozen? ⟨b, o, none⟩ = w.frozen? ⟨b, o, none⟩) ∧ b0 < w'.heap.size ∧ b1 < w'.heap.size ∧ b < w'.heap.size := by
  refine (opposite_any s a1 a2 l1 l2 c1 c2 w).mono ?_
  rintro e w' ⟨rfl, hb⟩
  exact ⟨_, rfl, rfl, Lib.hid hb, fun o => hb.cell (p := ⟨b0, o, none⟩) q0, fun o => hb.cell (p := ⟨b1, o, none⟩) q1, fun o => hb.cell (p := ⟨b, o, none⟩) q2, fun o => hb.frozen (p := ⟨b, o, none⟩) q2, Nat.lt_of_lt_of_le q0 hb.size, Nat.lt_of_lt_of_le q1 hb.size, Nat.lt_of_lt_of_le q2 hb.size⟩
theorem opp_sgn (s : Bool) (n l d : Nat) (h : (digs n).length = l) : sgn (!s && decide (0 < l)) (n * d) = - sgn s (n * d) := by
  subst h
  cases s with
  | true => simp [sgn]
  | false =>
    by_cases hn : n = 0
    · subst hn; simp [sgn]
    · have := digs_len_pos (Nat.pos_of_ne_zero hn)
      simp [sgn, this]
set_option maxRecDepth 20000 in
set_option maxHeartbeats 3200000 in
theorem minusR_raw (s1 s2 : Bool) (a1 a2 b1 b2 : Option Addr) (c1 c2 k1 k2 l1 l2 m1 m2 n1 d1 n2 d2 : Nat) (w : World) (h1 : RawV w a1 a2 l1 l2 n1 d1) (h2 : RawV w b1 b2 m1 m2 n2 d2) (q1 : l1 < 67108864) (q2 : l2 < 67108864) (q3 : m1 < 67108864) (q4 : m2 < 67108864) (hd1 : 0 < d1) (hd2 : 0 < d2) :
    Calls Try.prog 73 #[.agg #[.bool s1, .slice a1 l1 c1, .slice a2 l2 c2], .agg #[.bool s2, .slice b1 m1 k1, .slice b2 m2 k2]] w (RetR w (mkRat (sgn s1 (n1 * d2) - sgn s2 (n2 * d1)) (d1 * d2))) := by
  have HA : Below w.heap.size w (((w.alloc (.cells #[.bool s1, .slice a1 l1 c1, .slice a2 l2 c2] 79)).alloc (.cells #[.bool s2, .slice b1 m1 k1, .slice b2 m2 k2] 79)).alloc (.cells #[.bool false, .slice none 0 0, .slice none 0 0] 79)).drew := ((((Below.refl _ w).alloc (Nat.le_refl _) _).alloc (by simp) _).alloc (by simp only [alloc_size]; omega) _).drew
  have hop := opp_sgn s2 n2 m1 d1 h2.e1
  obtain ⟨R, hR⟩ : ∃ R, mkRat (sgn s1 (n1 * d2) - sgn s2 (n2 * d1)) (d1 * d2) = R := ⟨_, rfl⟩
  rw [hR]
  have HP := Lib.hid (fun (w : World) (h1 : RawV w a1 a2 l1 l2 n1 d1) (h2 : RawV w b1 b2 m1 m2 n2 d2) => by
    have := plusR_raw s1 (!s2 && decide (0 < m1)) a1 a2 b1 b2 c1 c2 k1 k2 l1 l2 m1 m2 n1 d1 n2 d2 w h1 h2 q1 q2 q3 q4 hd1 hd2
    rw [hop, ← Int.sub_eq_add_neg, hR] at this
    exact this)
  have H := Lib.hid (And.intro h1 (And.intro h2 HA))
  clear h1 h2 HA hd1 hd2 hop hR q1 q2 q3 q4
  obtain ⟨t, ht⟩ : ∃ t, (!s2 && decide (0 < m1)) = t := ⟨_, rfl⟩
  rw [ht] at HP
  have HT := Lib.hid ht
  clear ht
  go_enter Try.func73, Try.ntmps73
  go_wp2_with fail
  obtain ⟨t0, t1, t2⟩ := three_boxes w (.cells #[.bool s1, .slice a1 l1 c1, .slice a2 l2 c2] 79) (.cells #[.bool s2, .slice b1 m1 k1, .slice b2 m2 k2] 79) (.cells #[.bool false, .slice none 0 0, .slice none 0 0] 79)
  obtain ⟨⟨z0, z1, z2⟩, _, _, _⟩ := tri_cells t0
  obtain ⟨⟨z3, z4, z5⟩, _, _, _⟩ := tri_cells t1
  obtain ⟨⟨z6, z7, z8⟩, z9, z10, z11⟩ := tri_cells t2
  obtain ⟨wS, hwS⟩ : ∃ w', (((w.alloc (.cells #[.bool s1, .slice a1 l1 c1, .slice a2 l2 c2] 79)).alloc (.cells #[.bool s2, .slice b1 m1 k1, .slice b2 m2 k2] 79)).alloc (.cells #[.bool false, .slice none 0 0, .slice none 0 0] 79)) = w' := ⟨_, rfl⟩
  have zs : wS.heap.size = w.heap.size + 1 + 1 + 1 := by rw [← hwS]; simp only [alloc_size]
  rw [hwS] at z0 z1 z2 z3 z4 z5 z6 z7 z8 z9 z10 z11 H ⊢
  clear hwS t0 t1 t2
  have hne1 : w.heap.size + 1 + 1 ≠ w.heap.size := by omega
  have hne2 : w.heap.size ≠ w.heap.size + 1 + 1 := by omega
  go_region_held3 (fun w' => w'.cell? ⟨w.heap.size, 0, none⟩ = some (.bool s1) ∧ w'.cell? ⟨w.heap.size, 1, none⟩ = some (.slice a1 l1 c1) ∧ w'.cell? ⟨w.heap.size, 2, none⟩ = some (.slice a2 l2 c2) ∧
      w'.cell? ⟨w.heap.size + 1, 0, none⟩ = some (.bool s2) ∧ w'.cell? ⟨w.heap.size + 1, 1, none⟩ = some (.slice b1 m1 k1) ∧ w'.cell? ⟨w.heap.size + 1, 2, none⟩ = some (.slice b2 m2 k2) ∧
      w'.cell? ⟨w.heap.size + 1 + 1, 0, none⟩ = some (oldVal w' ⟨w.heap.size + 1 + 1, 0, none⟩) ∧ w'.cell? ⟨w.heap.size + 1 + 1, 1, none⟩ = some (oldVal w' ⟨w.heap.size + 1 + 1, 1, none⟩) ∧ w'.cell? ⟨w.heap.size + 1 + 1, 2, none⟩ = some (oldVal w' ⟨w.heap.size + 1 + 1, 2, none⟩) ∧
      w'.frozen? ⟨w.heap.size + 1 + 1, 0, none⟩ = false ∧ w'.frozen? ⟨w.heap.size + 1 + 1, 1, none⟩ = false ∧ w'.frozen? ⟨w.heap.size + 1 + 1, 2, none⟩ = false ∧ w.heap.size < w'.heap.size ∧ w.heap.size + 1 < w'.heap.size ∧ w.heap.size + 1 + 1 < w'.heap.size)
    ((repeat' refine And.intro ?_ ?_) <;> first | (go_keep; done) | (refine oldVal_of ?_; (repeat refine some_set ?_); go_keep; done) | (go_keep; omega))
    (first
      | (go_at_call 122; refine (opposite_kept s2 b1 b2 m1 m2 k1 k2 w.heap.size (w.heap.size + 1) (w.heap.size + 1 + 1) _ ?_ ?_ ?_).mono ?_; (first | omega | (simp [*]; done) | (simp [*]; omega)); (first | omega | (simp [*]; done) | (simp [*]; omega)); (first | omega | (simp [*]; done) | (simp [*]; omega)); rintro e w5 ⟨tq, htq, rfl, hX1, p0, p1, p2, p3, p4, p5, p6⟩; rw [HT.out] at htq; subst htq)
      | (go_at_call 47; refine (retK_of (b0 := w.heap.size) (b1 := w.heap.size + 1) (b := w.heap.size + 1 + 1) (HP.out _ (H.out.1.below (bthen H.out.2.2 hX1.out)) (H.out.2.1.below (bthen H.out.2.2 hX1.out))) ?_ ?_ ?_).mono ?_; (first | omega | (simp [*]; done) | (simp [*]; omega)); (first | omega | (simp [*]; done) | (simp [*]; omega)); (first | omega | (simp [*]; done) | (simp [*]; omega)); rintro e w7 ⟨sg, y1, u1, v1, y2, u2, v2, rfl, hY, s0, s1', s2', s3, s4, s5, s6⟩))
  go_wp2_with fail
  rename_i hHeld
  clear hHeld
  obtain ⟨hv, hbl, hsg⟩ := hY.out
  have hb : Below w.heap.size w w7 := bthen (bthen H.out.2.2 hX1.out) hbl
  have g0 : w7.cell? ⟨w.heap.size + 1 + 1, 0, none⟩ = some (.bool false) := by rw [s2' 0, p2 0]; exact z6
  have g1' : w7.cell? ⟨w.heap.size + 1 + 1, 1, none⟩ = some (.slice none 0 0) := by rw [s2' 1, p2 1]; exact z7
  have g2' : w7.cell? ⟨w.heap.size + 1 + 1, 2, none⟩ = some (.slice none 0 0) := by rw [s2' 2, p2 2]; exact z8
  have hI : Ints w7 (set3 w7 (w.heap.size + 1 + 1) (.bool sg) (.slice y1 v1 u1) (.slice y2 v2 u2)) := ints_set3 _ _ _ (by rw [g0]; simp) (by rw [g1']; simp) (by rw [g2']; simp)
  refine bodyPost_ret (v := .agg #[.bool sg, .slice y1 v1 u1, .slice y2 v2 u2]) (by simp [results, Try.results73, go_sem, *]) rfl ⟨sg, y1, u1, v1, y2, u2, v2, rfl, hv.ints hI, ?_, hsg⟩
  exact below_set3 hb (by omega) _ _ _
theorem sgn_mul (p : Int) (e : Nat) : sgn (decide (p < 0)) (p.natAbs * e) = p * (e : Int) := by
  have h := sgn_self p
  unfold sgn at h ⊢
  split at h
  · rename_i hp; rw [if_pos hp, Int.natCast_mul, ← Int.neg_mul, h]
  · rename_i hp; rw [if_neg hp, Int.natCast_mul, h]
theorem rat_plus (a b : Rat) : mkRat (sgn (decide (a.num < 0)) (a.num.natAbs * b.den) + sgn (decide (b.num < 0)) (b.num.natAbs * a.den)) (a.den * b.den) = a + b := by
  rw [sgn_mul, sgn_mul, ← rat_add]
theorem rat_minus (a b : Rat) : mkRat (sgn (decide (a.num < 0)) (a.num.natAbs * b.den) - sgn (decide (b.num < 0)) (b.num.natAbs * a.den)) (a.den * b.den) = a - b := by
  rw [sgn_mul, sgn_mul, Rat.sub_eq_add_neg, rat_add, Rat.neg_num, Rat.neg_den, Int.neg_mul, ← Int.sub_eq_add_neg]
theorem rat_times (a b : Rat) : mkRat (sgn (decide (a.num < 0) != decide (b.num < 0)) (a.num.natAbs * b.num.natAbs)) (a.den * b.den) = a * b := by
  rw [← mul_sgn, ← rat_mul]
end Go.Proofs.Ytklnfhjgbmfilaa
