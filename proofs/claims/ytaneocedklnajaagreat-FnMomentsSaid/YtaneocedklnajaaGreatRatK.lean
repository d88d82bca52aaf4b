import Derived.Test.YtaneocedklnajaaGreatComb3
import Derived.Test.YtaneocedklnajaaGreatAnyK
/- Ratios as rational numbers: what the program's operations answer, for numbers of bounded size; a ratio in a box. No condition but the bounds. -/
namespace Go.Proofs.YtaneocedklnajaaGreat
open Go.RowKit
set_option linter.unusedVariables false

/-- Both parts of a rational number are less than 2 to the power of b. -/
def bitsR (r : Rat) (b : Nat) : Prop := r.num.natAbs < 2 ^ b ∧ r.den < 2 ^ b
theorem bitsR.mono {r : Rat} {b c : Nat} (h : bitsR r b) (hc : b ≤ c) : bitsR r c :=
  ⟨Nat.lt_of_lt_of_le h.1 (Nat.pow_le_pow_right (by omega) hc), Nat.lt_of_lt_of_le h.2 (Nat.pow_le_pow_right (by omega) hc)⟩
theorem bits_add {a b : Rat} {x y : Nat} (ha : bitsR a x) (hb : bitsR b y) : bitsR (a + b) (x + y + 1) := by
  have hne : a.den * b.den ≠ 0 := Nat.ne_of_gt (Nat.mul_pos (Rat.den_pos _) (Rat.den_pos _))
  have h1 := Nat.mul_le_mul (Nat.le_of_lt ha.1) (Nat.le_of_lt hb.2)
  have h2 := Nat.mul_le_mul (Nat.le_of_lt hb.1) (Nat.le_of_lt ha.2)
  have h3 := Nat.mul_lt_mul'' ha.2 hb.2
  have h4 := Nat.mul_lt_mul'' ha.1 hb.2
  have h5 := Nat.mul_lt_mul'' hb.1 ha.2
  rw [← Nat.pow_add] at h3 h4 h5
  rw [Nat.add_comm y x] at h5
  have h6 : (2 : Nat) ^ (x + y + 1) = 2 ^ (x + y) * 2 := Nat.pow_succ ..
  rw [rat_add]
  refine ⟨?_, ?_⟩
  · rw [mk_abs hne]
    refine Nat.lt_of_le_of_lt (Nat.div_le_self _ _) ?_
    have k0 := Int.natAbs_add_le (a.num * (b.den : Int)) (b.num * (a.den : Int))
    rw [Int.natAbs_mul, Int.natAbs_natCast, Int.natAbs_mul, Int.natAbs_natCast] at k0
    omega
  · rw [mk_den hne]
    refine Nat.lt_of_le_of_lt (Nat.div_le_self _ _) ?_
    omega
theorem bits_mul {a b : Rat} {x y : Nat} (ha : bitsR a x) (hb : bitsR b y) : bitsR (a * b) (x + y) := by
  have hne : a.den * b.den ≠ 0 := Nat.ne_of_gt (Nat.mul_pos (Rat.den_pos _) (Rat.den_pos _))
  have h3 := Nat.mul_lt_mul'' ha.2 hb.2
  have h4 := Nat.mul_lt_mul'' ha.1 hb.1
  rw [← Nat.pow_add] at h3 h4
  rw [rat_mul]
  refine ⟨?_, ?_⟩
  · rw [mk_abs hne]
    refine Nat.lt_of_le_of_lt (Nat.div_le_self _ _) ?_
    rw [Int.natAbs_mul]; exact h4
  · rw [mk_den hne]
    exact Nat.lt_of_le_of_lt (Nat.div_le_self _ _) h3
theorem bits_zero : bitsR 0 1 := ⟨by decide, by decide⟩
theorem bits_neg {r : Rat} {b : Nat} (h : bitsR r b) : bitsR (-r) b := ⟨by rw [Rat.neg_num, Int.natAbs_neg]; exact h.1, by rw [Rat.neg_den]; exact h.2⟩
theorem bits_sub {a b : Rat} {x y : Nat} (ha : bitsR a x) (hb : bitsR b y) : bitsR (a - b) (x + y + 1) := by
  rw [Rat.sub_eq_add_neg]; exact bits_add ha (bits_neg hb)
theorem bits_fit {r : Rat} (h : fitR r = true) : bitsR r 60 := by
  unfold fitR at h
  simp only [Bool.and_eq_true, decide_eq_true_eq] at h
  exact ⟨Nat.lt_of_le_of_lt h.1 (by decide), Nat.lt_of_le_of_lt h.2 (by decide)⟩
theorem dlenB {n b k : Nat} (h : n < 2 ^ b) (hb : b ≤ 32 * k) : (digs n).length ≤ k := by
  refine digs_len_le ?_
  rw [bse_eq, show (4294967296 : Nat) = 2 ^ 32 from rfl, ← Nat.pow_mul]
  exact Nat.lt_of_lt_of_le h (Nat.pow_le_pow_right (by omega) hb)
theorem RawV.small {w : World} {a1 a2 : Option Addr} {l1 l2 : Nat} {r : Rat} {b : Nat} (h : RawV w a1 a2 l1 l2 r.num.natAbs r.den) (hb : bitsR r b) (hb2 : b ≤ 32 * 67108863) : l1 < 67108864 ∧ l2 < 67108864 := by
  have h1 := dlenB hb.1 hb2
  have h2 := dlenB hb.2 hb2
  rw [h.e1] at h1
  rw [h.e2] at h2
  omega
theorem plus_rr (r s : Rat) (x y : Nat) (a1 a2 b1 b2 : Option Addr) (c1 c2 k1 k2 l1 l2 m1 m2 : Nat) (w : World) (h1 : RawV w a1 a2 l1 l2 r.num.natAbs r.den) (h2 : RawV w b1 b2 m1 m2 s.num.natAbs s.den) (hx : bitsR r x) (hy : bitsR s y) (bx : x ≤ 1000000) (bY : y ≤ 1000000) :
    Calls Tryz.prog 33 #[.agg #[.bool (decide (r.num < 0)), .slice a1 l1 c1, .slice a2 l2 c2], .agg #[.bool (decide (s.num < 0)), .slice b1 m1 k1, .slice b2 m2 k2]] w (RetR w (r + s)) := by
  have e1 := h1.small hx (by omega)
  have e2 := h2.small hy (by omega)
  have := plusR_raw (decide (r.num < 0)) (decide (s.num < 0)) a1 a2 b1 b2 c1 c2 k1 k2 l1 l2 m1 m2 _ _ _ _ w h1 h2 e1.1 e1.2 e2.1 e2.2 (Rat.den_pos _) (Rat.den_pos _)
  rw [rat_plus] at this
  exact this
theorem minus_rr (r s : Rat) (x y : Nat) (a1 a2 b1 b2 : Option Addr) (c1 c2 k1 k2 l1 l2 m1 m2 : Nat) (w : World) (h1 : RawV w a1 a2 l1 l2 r.num.natAbs r.den) (h2 : RawV w b1 b2 m1 m2 s.num.natAbs s.den) (hx : bitsR r x) (hy : bitsR s y) (bx : x ≤ 1000000) (bY : y ≤ 1000000) :
    Calls Tryz.prog 53 #[.agg #[.bool (decide (r.num < 0)), .slice a1 l1 c1, .slice a2 l2 c2], .agg #[.bool (decide (s.num < 0)), .slice b1 m1 k1, .slice b2 m2 k2]] w (RetR w (r - s)) := by
  have e1 := h1.small hx (by omega)
  have e2 := h2.small hy (by omega)
  have := minusR_raw (decide (r.num < 0)) (decide (s.num < 0)) a1 a2 b1 b2 c1 c2 k1 k2 l1 l2 m1 m2 _ _ _ _ w h1 h2 e1.1 e1.2 e2.1 e2.2 (Rat.den_pos _) (Rat.den_pos _)
  rw [rat_minus] at this
  exact this
theorem times_rr (r s : Rat) (x y : Nat) (a1 a2 b1 b2 : Option Addr) (c1 c2 k1 k2 l1 l2 m1 m2 : Nat) (w : World) (h1 : RawV w a1 a2 l1 l2 r.num.natAbs r.den) (h2 : RawV w b1 b2 m1 m2 s.num.natAbs s.den) (hx : bitsR r x) (hy : bitsR s y) (bx : x ≤ 1000000) (bY : y ≤ 1000000) :
    Calls Tryz.prog 35 #[.agg #[.bool (decide (r.num < 0)), .slice a1 l1 c1, .slice a2 l2 c2], .agg #[.bool (decide (s.num < 0)), .slice b1 m1 k1, .slice b2 m2 k2]] w (RetR w (r * s)) := by
  have e1 := h1.small hx (by omega)
  have e2 := h2.small hy (by omega)
  have := timesR_raw (decide (r.num < 0)) (decide (s.num < 0)) a1 a2 b1 b2 c1 c2 k1 k2 l1 l2 m1 m2 _ _ _ _ w h1 h2 (by omega) (by omega) (by omega) (by omega) (Rat.den_pos _) (Rat.den_pos _)
  rw [rat_times] at this
  exact this
theorem fraction_rr (r : Rat) (x : Nat) (a1 a2 : Option Addr) (c1 c2 l1 l2 : Nat) (w : World) (h : RawV w a1 a2 l1 l2 r.num.natAbs r.den) (hx : bitsR r x) (bx : x ≤ 1000000) :
    Calls Tryz.prog 37 #[.agg #[.bool (decide (r.num < 0)), .slice a1 l1 c1, .slice a2 l2 c2]] w fun e w' => e = .returned (fracV r) ∧ Below w.heap.size w w' := by
  have e := h.small hx (by omega)
  obtain ⟨rfl, rfl, h1, h2⟩ := h
  exact fraction_any r a1 a2 c1 c2 w h1 h2 (by omega) (by omega)
theorem whole_rr (p : Int) (w : World) (h0 : -9223372036854775807 ≤ p) (h1 : p ≤ 9223372036854775807) : Calls Tryz.prog 32 #[.int .i64 p] w (RetR w (p : Rat)) :=
  (whole_any p w h0 h1).mono fun e w' h => retR_raw (r := (p : Rat)) (by simp) (by simp) (by rw [Rat.num_intCast]) h
theorem ratioOf_rr (n d : Int) (w : World) (hv : vF n d = true) : Calls Tryz.prog 34 #[.agg #[.int .i64 n, .int .i64 d]] w (RetR w (mkRat n d.toNat)) := by
  obtain ⟨⟨h1, h2⟩, ⟨h3, h4⟩, h5⟩ := vF_iff.1 hv
  obtain ⟨D, rfl⟩ := Int.eq_ofNat_of_zero_le (show 0 ≤ d by omega)
  simp only [Int.toNat_natCast] at h5 ⊢
  exact ratioOf_sg n D w (by omega) (by omega) (by omega) h5
theorem IsInts.ints {w w' : World} {a : Option Addr} {n : Nat} {zs : List Int} (h : IsInts w a n zs) (hI : Ints w w') : IsInts w' a n zs := ⟨h.1, fun j hj => by
  obtain ⟨b, off, e, c⟩ := h.2 j hj
  exact ⟨b, off, e, hI _ _ _ _ c⟩⟩
/-- Three cells of a box at once. -/
def put3 (w : World) (b : Nat) (x y z : Value) : World := ((w.setCell ⟨b, 0, none⟩ x).setCell ⟨b, 1, none⟩ y).setCell ⟨b, 2, none⟩ z
/-- A box that holds a ratio. -/
def RBox (w : World) (b : Nat) (r : Rat) : Prop := ∃ a1 c1 l1 a2 c2 l2, C3 w b (.bool (decide (r.num < 0))) (.slice a1 l1 c1) (.slice a2 l2 c2) ∧ RawV w a1 a2 l1 l2 r.num.natAbs r.den
theorem C3.all {w w' : World} {b : Nat} {x y z : Value} (h : C3 w b x y z) (hb : Below w.heap.size w w') : C3 w' b x y z := h.below h.lt hb hb.size
theorem RBox.all {w w' : World} {b : Nat} {r : Rat} (h : RBox w b r) (hb : Below w.heap.size w w') : RBox w' b r := by
  obtain ⟨a1, c1, l1, a2, c2, l2, h1, h2⟩ := h
  exact ⟨a1, c1, l1, a2, c2, l2, h1.all hb, h2.below hb⟩
theorem put3_ints {w : World} {b : Nat} {s : Bool} {a1 a2 : Option Addr} {l1 c1 l2 c2 : Nat} (h : C3 w b (.bool s) (.slice a1 l1 c1) (.slice a2 l2 c2)) (x y z : Value) : Ints w (put3 w b x y z) := by
  refine (Ints.set (by rw [h.c0]; simp)).trans ((Ints.set ?_).trans (Ints.set ?_))
  · rw [(h.set0 x).c1]; simp
  · rw [((h.set0 x).set1 y).c2]; simp
theorem put3_box {w : World} {b : Nat} {x y z : Value} (h : C3 w b x y z) (u v t : Value) : C3 (put3 w b u v t) b u v t := ((h.set0 u).set1 v).set2 t
theorem put3_below {w w' : World} {B b : Nat} (h : Below B w w') (hb : B ≤ b) (x y z : Value) : Below B w (put3 w' b x y z) := ((h.setCell (p := ⟨b, 0, none⟩) hb x).setCell (p := ⟨b, 1, none⟩) hb y).setCell (p := ⟨b, 2, none⟩) hb z
theorem put3_other {w : World} {b g : Nat} {x y : Value} (h : C2 w b x y) (hne : g ≠ b) (u v t : Value) : C2 (put3 w g u v t) b x y := ((h.other hne u).other hne v).other hne t
end Go.Proofs.YtaneocedklnajaaGreat
