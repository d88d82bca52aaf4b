import Derived.Test.YtlckamnadddlmaaGreatDoorBase
import Derived.Test.YtlckamnadddlmaaGreatDoorRatY
import Derived.BigQuiet
import Derived.Test.YtlckamnadddlmaaGreatDoorRatQX
import Derived.Deep.CutBlock
/- Bit by bit on uint64: plain facts. No condition. -/
namespace Go.Proofs.YtlckamnadddlmaaGreatDoor
open Go.RowKit
set_option linter.unusedVariables false

theorem toNat_ofIntU (a : Nat) (h : a < 18446744073709551616) : (BitVec.ofInt 64 (a : Int)).toNat = a := by
  rw [BitVec.ofInt_natCast, BitVec.toNat_ofNat]; exact Nat.mod_eq_of_lt (by omega)
theorem wrap_u64 (a : Nat) (h : a < 18446744073709551616) : IntKind.u64.wrap (a : Int) = (a : Int) := by
  show ((a : Int) % 18446744073709551616) = a
  omega
theorem xor_u64 (a b : Nat) (ha : a < 18446744073709551616) (hb : b < 18446744073709551616) : bits .xor .u64 (a : Int) (b : Int) = ((a ^^^ b : Nat) : Int) := by
  have hx : a ^^^ b < 2 ^ 64 := Nat.xor_lt_two_pow (by omega) (by omega)
  show IntKind.u64.wrap ((BitVec.ofInt 64 (a : Int) ^^^ BitVec.ofInt 64 (b : Int)).toNat : Int) = _
  rw [BitVec.toNat_xor, toNat_ofIntU a ha, toNat_ofIntU b hb]
  exact wrap_u64 _ (by omega)
end Go.Proofs.YtlckamnadddlmaaGreatDoor
/- The reference's wide numbers: products of two numbers below 2 to the power of 63. No other condition. -/
namespace Go.Proofs.YtlckamnadddlmaaGreatDoor
open Go.RowKit
set_option linter.unusedVariables false

theorem u64_in {n : Int} (h0 : 0 ≤ n) (h1 : n < 18446744073709551616) : IntKind.u64.wrap n = n := by
  show n % 18446744073709551616 = n
  omega
end Go.Proofs.YtlckamnadddlmaaGreatDoor
/- The reference's product of fractions. Condition: the fractions are valid ones. -/
namespace Go.Proofs.YtlckamnadddlmaaGreatDoor
open Go.RowKit
set_option linter.unusedVariables false

/-- A box of two values. -/
structure C2 (w : World) (b : Nat) (x y : Value) : Prop where
  c0 : w.cell? ⟨b, 0, none⟩ = some x
  c1 : w.cell? ⟨b, 1, none⟩ = some y
  f0 : w.frozen? ⟨b, 0, none⟩ = false
  f1 : w.frozen? ⟨b, 1, none⟩ = false
  lt : b < w.heap.size
theorem C2.of_heap {w : World} {b t : Nat} {x y : Value} (h : w.heap[b]? = some (.cells #[x, y] t (0, 0))) : C2 w b x y :=
  ⟨by simp [World.cell?, h], by simp [World.cell?, h], by simp [World.frozen?, h], by simp [World.frozen?, h], lt_of_heap h⟩
theorem C2.new (w : World) (t : Nat) (x y : Value) : C2 (w.alloc (.cells #[x, y] t (0, 0))) w.heap.size x y := C2.of_heap (heap_at_new w _)
theorem C2.below {w w' : World} {b B : Nat} {x y : Value} (h : C2 w b x y) (hlt : b < B) (hb : Below B w w') : C2 w' b x y :=
  ⟨(hb.cell (p := ⟨b, 0, none⟩) hlt).trans h.c0, (hb.cell (p := ⟨b, 1, none⟩) hlt).trans h.c1, (hb.frozen (p := ⟨b, 0, none⟩) hlt).trans h.f0, (hb.frozen (p := ⟨b, 1, none⟩) hlt).trans h.f1, Nat.lt_of_lt_of_le h.lt hb.size⟩
theorem C2.all {w w' : World} {b : Nat} {x y : Value} (h : C2 w b x y) (hb : Below w.heap.size w w') : C2 w' b x y := h.below h.lt hb
theorem kept3_of {P : Program} {f : Nat} {args : Array Value} {w : World} {V : Value} {b0 b1 b2 : Nat} (h : Calls P f args w fun e w' => e = .returned V ∧ Below w.heap.size w w') (q0 : b0 < w.heap.size) (q1 : b1 < w.heap.size) (q2 : b2 < w.heap.size) :
    Calls P f args w fun e w' => e = .returned V ∧ Hid (Below w.heap.size w w') ∧ (∀ o, w'.cell? ⟨b0, o, none⟩ = w.cell? ⟨b0, o, none⟩) ∧ (∀ o, w'.cell? ⟨b1, o, none⟩ = w.cell? ⟨b1, o, none⟩) ∧ (∀ o, w'.cell? ⟨b2, o, none⟩ = w.cell? ⟨b2, o, none⟩) ∧ (∀ o, w'.frozen? ⟨b2, o, none⟩ = w.frozen? ⟨b2, o, none⟩) ∧ b0 < w'.heap.size ∧ b1 < w'.heap.size ∧ b2 < w'.heap.size := by
  refine h.mono ?_
  rintro e w' ⟨rfl, hb⟩
  exact ⟨rfl, Lib.hid hb, fun o => hb.cell (p := ⟨b0, o, none⟩) q0, fun o => hb.cell (p := ⟨b1, o, none⟩) q1, fun o => hb.cell (p := ⟨b2, o, none⟩) q2, fun o => hb.frozen (p := ⟨b2, o, none⟩) q2, Nat.lt_of_lt_of_le q0 hb.size, Nat.lt_of_lt_of_le q1 hb.size, Nat.lt_of_lt_of_le q2 hb.size⟩
theorem fit_mul (a b : Rat) (h1 : (a * b).num = a.num * b.num) (h2 : (a * b).den = a.den * b.den) : fitR (a * b) = (decide (a.num.natAbs * b.num.natAbs ≤ 1000000000000000000) && decide (a.den * b.den ≤ 1000000000000000000)) := by
  unfold fitR
  rw [h1, h2, Int.natAbs_mul]
theorem mk_small {p : Int} {q : Nat} (hq : 0 < q) (h1 : p.natAbs ≤ 1000000000000000000) (h2 : q ≤ 1000000000000000000) : (mkRat p q).num.natAbs ≤ 1000000000000000000 ∧ (mkRat p q).den ≤ 1000000000000000000 := by
  rw [mk_abs (Nat.ne_of_gt hq), mk_den (Nat.ne_of_gt hq)]
  exact ⟨Nat.le_trans (Nat.div_le_self _ _) h1, Nat.le_trans (Nat.div_le_self _ _) h2⟩
end Go.Proofs.YtlckamnadddlmaaGreatDoor
/- The reference's wide numbers: sum, difference, order. Condition: the numbers stay below 2 to the power of 127. -/
namespace Go.Proofs.YtlckamnadddlmaaGreatDoor
open Go.RowKit
set_option linter.unusedVariables false

/-- A wide number in two words. -/
def wv (z : Nat) : Value := .agg #[.int .u64 ((z / 18446744073709551616 : Nat) : Int), .int .u64 ((z % 18446744073709551616 : Nat) : Int)]
theorem wv_of {z h l : Nat} (hl : l < 18446744073709551616) (e : z = h * 18446744073709551616 + l) : wv z = .agg #[.int .u64 (h : Int), .int .u64 (l : Int)] := by
  unfold wv
  rw [show z / 18446744073709551616 = h by omega, show z % 18446744073709551616 = l by omega]
theorem below_4 (w : World) (o1 o2 o3 o4 : Obj) : Below w.heap.size w ((((w.alloc o1).alloc o2).alloc o3).alloc o4) := ((((Below.refl _ w).alloc (Nat.le_refl _) _).alloc (by simp) _).alloc (by simp only [alloc_size]; omega) _).alloc (by simp only [alloc_size]; omega) _
end Go.Proofs.YtlckamnadddlmaaGreatDoor
/- The reference's division of a wide number, bit by bit. Condition: the divisor is below 2 to the power of 62. -/
namespace Go.Proofs.YtlckamnadddlmaaGreatDoor
open Go.RowKit
set_option linter.unusedVariables false

theorem bit_low (x n : Nat) (h : n < 64) : x % 18446744073709551616 / 2 ^ n % 2 = x / 2 ^ n % 2 := by
  have e := Nat.testBit_mod_two_pow x 64 n
  rw [decide_eq_true h, Bool.true_and, Nat.testBit_eq_decide_div_mod_eq, Nat.testBit_eq_decide_div_mod_eq] at e
  have e2 := decide_eq_decide.1 e
  rw [show (18446744073709551616 : Nat) = 2 ^ 64 from rfl]
  omega
theorem bit_high (x n : Nat) (h : 64 ≤ n) : x / 18446744073709551616 / 2 ^ (n - 64) = x / 2 ^ n := by
  rw [Nat.div_div_eq_div_mul, show (18446744073709551616 : Nat) = 2 ^ 64 from rfl, ← Nat.pow_add]
  congr 2
  omega
theorem half_step (x n : Nat) : x / 2 ^ n = 2 * (x / 2 ^ (n + 1)) + x / 2 ^ n % 2 := by
  rw [Nat.pow_succ, ← Nat.div_div_eq_div_mul]
  omega
theorem div_step (y d b : Nat) (hd : 0 < d) (hb : b < 2) : (2 * y + b) / d = 2 * (y / d) + (if d ≤ 2 * (y % d) + b then 1 else 0) ∧ (2 * y + b) % d = 2 * (y % d) + b - (if d ≤ 2 * (y % d) + b then d else 0) := by
  have h1 := Nat.div_add_mod y d
  have h2 := Nat.mod_lt y hd
  obtain ⟨q, hq⟩ : ∃ q, y / d = q := ⟨_, rfl⟩
  obtain ⟨r, hr⟩ : ∃ r, y % d = r := ⟨_, rfl⟩
  rw [hq, hr] at h1 ⊢
  rw [hr] at h2
  have e : 2 * y + b = d * (2 * q) + (2 * r + b) := by rw [← h1]; grind
  rw [e]
  by_cases h : d ≤ 2 * r + b
  · rw [if_pos h, if_pos h]
    have e2 : d * (2 * q) + (2 * r + b) = (2 * r + b - d) + d * (2 * q + 1) := by rw [Nat.mul_add, Nat.mul_one]; omega
    rw [e2, Nat.add_mul_div_left _ _ hd, Nat.add_mul_mod_self_left, Nat.div_eq_of_lt (by omega), Nat.mod_eq_of_lt (by omega)]
    omega
  · rw [if_neg h, if_neg h]
    have e2 : d * (2 * q) + (2 * r + b) = (2 * r + b) + d * (2 * q) := by omega
    rw [e2, Nat.add_mul_div_left _ _ hd, Nat.add_mul_mod_self_left, Nat.div_eq_of_lt (by omega), Nat.mod_eq_of_lt (by omega)]
    omega
/-- Twice a wide number. -/
theorem dbl_wide (q : Nat) (hq : q < 2 ^ 127) : (2 * q) / 18446744073709551616 = (q / 18446744073709551616 * 2) ||| (q % 18446744073709551616 / 9223372036854775808) ∧ (2 * q) % 18446744073709551616 = (q % 18446744073709551616 * 2) % 18446744073709551616 := by
  have h1 : q % 18446744073709551616 / 9223372036854775808 < 2 := by omega
  have e := Nat.two_pow_add_eq_or_of_lt (i := 1) (b := q % 18446744073709551616 / 9223372036854775808) (by omega) (q / 18446744073709551616)
  constructor
  · rw [Nat.mul_comm (q / 18446744073709551616) 2, show (2 : Nat) * (q / 18446744073709551616) = 2 ^ 1 * (q / 18446744073709551616) from rfl, ← e]
    omega
  · omega
theorem or_one (l : Nat) (h : l % 2 = 0) : l ||| 1 = l + 1 := by
  have e := Nat.two_pow_add_eq_or_of_lt (i := 1) (b := 1) (by omega) (l / 2)
  rw [show 2 ^ 1 * (l / 2) = l by omega] at e
  exact e.symm
theorem and_one (a : Nat) (h : a < 18446744073709551616) : bits .and .u64 (a : Int) 1 = ((a % 2 : Nat) : Int) := by
  have := and_u64 a 1 h (by omega)
  rw [Nat.and_one_is_mod] at this
  exact this
theorem C2.set0 {w : World} {b : Nat} {x y : Value} (h : C2 w b x y) (v : Value) : C2 (w.setCell ⟨b, 0, none⟩ v) b v y :=
  ⟨World.cell?_setCell_same _ _ _ h.c0, by rw [World.cell?_setCell_other _ _ _ _ (by simp)]; exact h.c1, by rw [World.frozen?_setCell]; exact h.f0, by rw [World.frozen?_setCell]; exact h.f1, by rw [World.size_setCell]; exact h.lt⟩
theorem C2.set1 {w : World} {b : Nat} {x y : Value} (h : C2 w b x y) (v : Value) : C2 (w.setCell ⟨b, 1, none⟩ v) b x v :=
  ⟨by rw [World.cell?_setCell_other _ _ _ _ (by simp)]; exact h.c0, World.cell?_setCell_same _ _ _ h.c1, by rw [World.frozen?_setCell]; exact h.f0, by rw [World.frozen?_setCell]; exact h.f1, by rw [World.size_setCell]; exact h.lt⟩
theorem C2.other {w : World} {b g o : Nat} {x y : Value} (h : C2 w b x y) (hne : g ≠ b) (v : Value) : C2 (w.setCell ⟨g, o, none⟩ v) b x y := by
  have e : ∀ p, (⟨g, o, none⟩ : Addr) ≠ ⟨b, p, none⟩ := fun p e => hne (by injection e)
  exact ⟨by rw [World.cell?_setCell_other _ _ _ _ (e 0)]; exact h.c0, by rw [World.cell?_setCell_other _ _ _ _ (e 1)]; exact h.c1, by rw [World.frozen?_setCell]; exact h.f0, by rw [World.frozen?_setCell]; exact h.f1, by rw [World.size_setCell]; exact h.lt⟩
/-- All that a round calculates. -/
structure SpR (x d n y z qh ql bt Z2 R qh2 ql2 ql3 : Nat) : Prop where
  hbt : x / 2 ^ n % 2 = bt
  hy : x / 2 ^ n = 2 * y + bt
  hz2 : IntKind.u64.wrap (2 * (z : Int)) = (Z2 : Int)
  hr : IntKind.u64.wrap ((Z2 : Int) + (bt : Int)) = (R : Int)
  hrb : R < 9223372036854775808
  hqh : bits .or .u64 (IntKind.u64.wrap ((qh : Int) * 2)) ((ql : Int) / 9223372036854775808) = (qh2 : Int)
  hql : IntKind.u64.wrap ((ql : Int) * 2) = (ql2 : Int)
  hor : bits .or .u64 (ql2 : Int) 1 = (ql3 : Int)
  hno : R < d → (2 * y + bt) % d = R ∧ (2 * y + bt) / d / 18446744073709551616 = qh2 ∧ (2 * y + bt) / d % 18446744073709551616 = ql2
  hyes : d ≤ R → (2 * y + bt) % d = R - d ∧ (2 * y + bt) / d / 18446744073709551616 = qh2 ∧ (2 * y + bt) / d % 18446744073709551616 = ql3
theorem spR_of {x d n y z qh ql : Nat} (hx : x < 2 ^ 127) (hd : 0 < d) (hd2 : d < 4611686018427387904) (hy : x / 2 ^ (n + 1) = y) (hz : y % d = z) (hqh : y / d / 18446744073709551616 = qh) (hql : y / d % 18446744073709551616 = ql) :
    ∃ bt Z2 R qh2 ql2 ql3, SpR x d n y z qh ql bt Z2 R qh2 ql2 ql3 := by
  have hb : x / 2 ^ n % 2 < 2 := Nat.mod_lt _ (by omega)
  have hst := half_step x n
  rw [hy] at hst
  obtain ⟨bt, hbt⟩ : ∃ v, x / 2 ^ n % 2 = v := ⟨_, rfl⟩
  rw [hbt] at hst hb
  have hyb : y < 2 ^ 126 := by
    have h1 : x / 2 ^ n ≤ x := Nat.div_le_self _ _
    omega
  have hzd : z < d := by rw [← hz]; exact Nat.mod_lt _ hd
  obtain ⟨Y, hY⟩ : ∃ v, y / d = v := ⟨_, rfl⟩
  have hYb : Y < 2 ^ 126 := Nat.lt_of_le_of_lt (by rw [← hY]; exact Nat.div_le_self _ _) hyb
  obtain ⟨e1, e2⟩ := dbl_wide Y (by omega)
  obtain ⟨s1, s2⟩ := div_step y d bt hd hb
  rw [hY] at hqh hql s1
  rw [hqh, hql] at e1
  rw [hql] at e2
  rw [hz] at s1 s2
  refine ⟨bt, 2 * z, 2 * z + bt, 2 * Y / 18446744073709551616, 2 * Y % 18446744073709551616, 2 * Y % 18446744073709551616 + 1, hbt, hst, ?_, ?_, by omega, ?_, ?_, ?_, fun h => ?_, fun h => ?_⟩
  · rw [u64_in (by omega) (by omega)]; omega
  · rw [u64_in (by omega) (by omega)]; omega
  · have hq2 : IntKind.u64.wrap ((qh : Int) * 2) = ((qh * 2 : Nat) : Int) := by rw [u64_in (by omega) (by omega)]; omega
    have hq3 : (ql : Int) / 9223372036854775808 = ((ql / 9223372036854775808 : Nat) : Int) := by omega
    rw [hq2, hq3, or_u64 _ _ (by omega) (by omega), e1]
  · show ((ql : Int) * 2) % 18446744073709551616 = _
    omega
  · have := or_u64 (2 * Y % 18446744073709551616) 1 (by omega) (by omega)
    rw [or_one _ (by omega)] at this
    exact this
  · rw [if_neg (by omega)] at s1 s2
    rw [s1, s2]
    exact ⟨by omega, rfl, rfl⟩
  · rw [if_pos (by omega)] at s1 s2
    rw [s1, s2]
    exact ⟨by omega, by omega, by omega⟩
/-- What the loop keeps. -/
def SpA (w : World) (x q : Nat) (wr : World) : Prop := C2 wr w.heap.size (.int .u64 ((x / 18446744073709551616 : Nat) : Int)) (.int .u64 ((x % 18446744073709551616 : Nat) : Int)) ∧ C2 wr (w.heap.size + 1) (.int .u64 0) (.int .u64 0) ∧ C2 wr (w.heap.size + 1 + 1) (.int .u64 ((q / 18446744073709551616 : Nat) : Int)) (.int .u64 ((q % 18446744073709551616 : Nat) : Int)) ∧ Below w.heap.size w wr
end Go.Proofs.YtlckamnadddlmaaGreatDoor
/- The reference's sum of fractions. Condition: the fractions are valid ones. -/
namespace Go.Proofs.YtlckamnadddlmaaGreatDoor
open Go.RowKit
set_option linter.unusedVariables false

theorem wv_parts (z : Nat) : ∃ hi lo, wv z = .agg #[.int .u64 hi, .int .u64 lo] := ⟨_, _, rfl⟩
/-- The parts of a sum. -/
structure FaN (p q : Int) (b c d : Nat) : Prop where
  p : p.natAbs ≤ 1000000000000000000
  q : q.natAbs ≤ 1000000000000000000
  b0 : 0 < b
  b1 : b ≤ 1000000000000000000
  c0 : 0 < c
  c1 : c ≤ 1000000000000000000
  d : d = b.gcd c
theorem fa_yes {Rf : Rat} {mn : Bool} {E K : Nat} (hn : Rf.num = sgn mn E) (hd : Rf.den = K) (h1 : E ≤ 1000000000000000000) (h2 : K ≤ 1000000000000000000) : fracV Rf = .tuple #[.agg #[.int .i64 (sgn mn E), .int .i64 (K : Int)], .bool true] := by
  rw [fracV_yes (by unfold fitR; rw [hn, hd, sgn_abs, decide_eq_true h1, decide_eq_true h2]; rfl), hn, hd]
theorem fa_no {Rf : Rat} {mn : Bool} {E K : Nat} (hn : Rf.num = sgn mn E) (hd : Rf.den = K) (h : ¬ (E ≤ 1000000000000000000 ∧ K ≤ 1000000000000000000)) : fracV Rf = .tuple #[.agg #[.int .i64 0, .int .i64 0], .bool false] := by
  refine fracV_no ?_
  unfold fitR
  rw [hn, hd, sgn_abs]
  by_cases h1 : E ≤ 1000000000000000000
  · rw [decide_eq_true h1, decide_eq_false (fun h2 => h ⟨h1, h2⟩)]; rfl
  · rw [decide_eq_false h1]; rfl
theorem sgn_div (mn : Bool) (T G : Nat) (h : G ∣ T) : sgn mn T / (G : Int) = sgn mn (T / G) := by
  have hg : ((T / G : Nat) : Int) = (T : Int) / (G : Int) := by simp
  cases mn with
  | false => simp only [sgn, Bool.false_eq_true, if_false]; rw [hg]
  | true =>
    simp only [sgn, if_true]
    rw [hg, Int.neg_ediv_of_dvd (Int.ofNat_dvd.2 h)]
/-- What lies in memory ahead of the switch. -/
def Fa5 (w : World) (b7 b8 bA : Nat) (p q : Int) (b c : Nat) (xh xl yh yl : Int) (wr : World) : Prop := C2 wr w.heap.size (.int .i64 p) (.int .i64 (b : Nat)) ∧ C2 wr (w.heap.size + 1) (.int .i64 q) (.int .i64 (c : Nat)) ∧ C2 wr (w.heap.size + 1 + 1) (.int .i64 0) (.int .i64 0) ∧ Below w.heap.size w wr ∧ C2 wr b7 (.int .u64 xh) (.int .u64 xl) ∧ C2 wr b8 (.int .u64 yh) (.int .u64 yl) ∧ C2 wr bA (.int .u64 0) (.int .u64 0)
theorem Fa5.all {w wr wx : World} {b7 b8 bA : Nat} {p q : Int} {b c : Nat} {xh xl yh yl : Int} (h : Fa5 w b7 b8 bA p q b c xh xl yh yl wr) (hb : Below wr.heap.size wr wx) : Fa5 w b7 b8 bA p q b c xh xl yh yl wx :=
  ⟨h.1.all hb, h.2.1.all hb, h.2.2.1.all hb, bthen h.2.2.2.1 hb, h.2.2.2.2.1.all hb, h.2.2.2.2.2.1.all hb, h.2.2.2.2.2.2.all hb⟩
end Go.Proofs.YtlckamnadddlmaaGreatDoor
