import Derived.Test.YtklnfhjgbmfilaaWide2
/- The reference's division of a wide number, bit by bit. Condition: the divisor is below 2 to the power of 62. -/
namespace Go.Proofs.Ytklnfhjgbmfilaa
open Go.RowKit
set_option linter.unusedVariables false

theorem bit_low (x n : Nat) (h : n < 64) : x % 18446744073709551616 / 2 ^ n % 2 = x / 2 ^ n % 2 := by
  have e := Nat.testBit_mod_two_pow x 64 n
  rw [decide_eq_true h, Bool.true_and, Nat.testBit_eq_decide_div_mod_eq, Nat.testBit_eq_decide_div_mod_eq] at e
  have e2 := decide_eq_decide.1 e
  rw [show (18446744073709551616 : Nat) = 2 ^ 64 from rfl]
  omega
theorem bit_high (x n : Nat) (h : 64 ≤ n) : x / 18446744073709551616 / 2 ^ (n - 64) = x / 2 ^ n := by
  rw [Nat.div_div_eq_div_mul, show (18446744073709551616 : Nat) = 2 ^ 64 from rfl, ← Nat.pow_add]
  congr 2
  omega
theorem half_step (x n : Nat) : x / 2 ^ n = 2 * (x / 2 ^ (n + 1)) + x / 2 ^ n % 2 := by
  rw [Nat.pow_succ, ← Nat.div_div_eq_div_mul]
  omega
theorem div_step (y d b : Nat) (hd : 0 < d) (hb : b < 2) : (2 * y + b) / d = 2 * (y / d) + (if d ≤ 2 * (y % d) + b then 1 else 0) ∧ (2 * y + b) % d = 2 * (y % d) + b - (if d ≤ 2 * (y % d) + b then d else 0) := by
  have h1 := Nat.div_add_mod y d
  have h2 := Nat.mod_lt y hd
  obtain ⟨q, hq⟩ : ∃ q, y / d = q := ⟨_, rfl⟩
  obtain ⟨r, hr⟩ : ∃ r, y % d = r := ⟨_, rfl⟩
  rw [hq, hr] at h1 ⊢
  rw [hr] at h2
  have e : 2 * y + b = d * (2 * q) + (2 * r + b) := by rw [← h1]; grind
  rw [e]
  by_cases h : d ≤ 2 * r + b
  · rw [if_pos h, if_pos h]
    have e2 : d * (2 * q) + (2 * r + b) = (2 * r + b - d) + d * (2 * q + 1) := by rw [Nat.mul_add, Nat.mul_one]; omega
    rw [e2, Nat.add_mul_div_left _ _ hd, Nat.add_mul_mod_self_left, Nat.div_eq_of_lt (by omega), Nat.mod_eq_of_lt (by omega)]
    omega
  · rw [if_neg h, if_neg h]
    have e2 : d * (2 * q) + (2 * r + b) = (2 * r + b) + d * (2 * q) := by omega
    rw [e2, Nat.add_mul_div_left _ _ hd, Nat.add_mul_mod_self_left, Nat.div_eq_of_lt (by omega), Nat.mod_eq_of_lt (by omega)]
    omega
/-- Twice a wide number. -/
theorem dbl_wide (q : Nat) (hq : q < 2 ^ 127) : (2 * q) / 18446744073709551616 = (q / 18446744073709551616 * 2) ||| (q % 18446744073709551616 / 9223372036854775808) ∧ (2 * q) % 18446744073709551616 = (q % 18446744073709551616 * 2) % 18446744073709551616 := by
  have h1 : q % 18446744073709551616 / 9223372036854775808 < 2 := by omega
  have e := Nat.two_pow_add_eq_or_of_lt (i := 1) (b := q % 18446744073709551616 / 9223372036854775808) (by omega) (q / 18446744073709551616)
  constructor
  · rw [Nat.mul_comm (q / 18446744073709551616) 2, show (2 : Nat) * (q / 18446744073709551616) = 2 ^ 1 * (q / 18446744073709551616) from rfl, ← e]
    omega
  · omega
theorem or_one (l : Nat) (h : l % 2 = 0) : l ||| 1 = l + 1 := by
  have e := Nat.two_pow_add_eq_or_of_lt (i := 1) (b := 1) (by omega) (l / 2)
  rw [show 2 ^ 1 * (l / 2) = l by omega] at e
  exact e.symm
theorem and_one (a : Nat) (h : a < 18446744073709551616) : bits .and .u64 (a : Int) 1 = ((a % 2 : Nat) : Int) := by
  have := and_u64 a 1 h (by omega)
  rw [Nat.and_one_is_mod] at this
  exact this
theorem C2.set0 {w : World} {b : Nat} {x y : Value} (h : C2 w b x y) (v : Value) : C2 (w.setCell ⟨b, 0, none⟩ v) b v y :=
  ⟨World.cell?_setCell_same _ _ _ h.c0, by rw [World.cell?_setCell_other _ _ _ _ (by simp)]; exact h.c1, by rw [World.frozen?_setCell]; exact h.f0, by rw [World.frozen?_setCell]; exact h.f1, by rw [World.size_setCell]; exact h.lt⟩
theorem C2.set1 {w : World} {b : Nat} {x y : Value} (h : C2 w b x y) (v : Value) : C2 (w.setCell ⟨b, 1, none⟩ v) b x v :=
  ⟨by rw [World.cell?_setCell_other _ _ _ _ (by simp)]; exact h.c0, World.cell?_setCell_same _ _ _ h.c1, by rw [World.frozen?_setCell]; exact h.f0, by rw [World.frozen?_setCell]; exact h.f1, by rw [World.size_setCell]; exact h.lt⟩
theorem C2.other {w : World} {b g o : Nat} {x y : Value} (h : C2 w b x y) (hne : g ≠ b) (v : Value) : C2 (w.setCell ⟨g, o, none⟩ v) b x y := by
  have e : ∀ p, (⟨g, o, none⟩ : Addr) ≠ ⟨b, p, none⟩ := fun p e => hne (by injection e)
  exact ⟨by rw [World.cell?_setCell_other _ _ _ _ (e 0)]; exact h.c0, by rw [World.cell?_setCell_other _ _ _ _ (e 1)]; exact h.c1, by rw [World.frozen?_setCell]; exact h.f0, by rw [World.frozen?_setCell]; exact h.f1, by rw [World.size_setCell]; exact h.lt⟩
/-- All that a round calculates. -/
structure SpR (x d n y z qh ql bt Z2 R qh2 ql2 ql3 : Nat) : Prop where
  hbt : x / 2 ^ n % 2 = bt
  hy : x / 2 ^ n = 2 * y + bt
  hz2 : IntKind.u64.wrap (2 * (z : Int)) = (Z2 : Int)
  hr : IntKind.u64.wrap ((Z2 : Int) + (bt : Int)) = (R : Int)
  hrb : R < 9223372036854775808
  hqh : bits .or .u64 (IntKind.u64.wrap ((qh : Int) * 2)) ((ql : Int) / 9223372036854775808) = (qh2 : Int)
  hql : IntKind.u64.wrap ((ql : Int) * 2) = (ql2 : Int)
  hor : bits .or .u64 (ql2 : Int) 1 = (ql3 : Int)
  hno : R < d → (2 * y + bt) % d = R ∧ (2 * y + bt) / d / 18446744073709551616 = qh2 ∧ (2 * y + bt) / d % 18446744073709551616 = ql2
  hyes : d ≤ R → (2 * y + bt) % d = R - d ∧ (2 * y + bt) / d / 18446744073709551616 = qh2 ∧ (2 * y + bt) / d % 18446744073709551616 = ql3
theorem spR_of {x d n y z qh ql : Nat} (hx : x < 2 ^ 127) (hd : 0 < d) (hd2 : d < 4611686018427387904) (hy : x / 2 ^ (n + 1) = y) (hz : y % d = z) (hqh : y / d / 18446744073709551616 = qh) (hql : y / d % 18446744073709551616 = ql) :
    ∃ bt Z2 R qh2 ql2 ql3, SpR x d n y z qh ql bt Z2 R qh2 ql2 ql3 := by
  have hb : x / 2 ^ n % 2 < 2 := Nat.mod_lt _ (by omega)
  have hst := half_step x n
  rw [hy] at hst
  obtain ⟨bt, hbt⟩ : ∃ v, x / 2 ^ n % 2 = v := ⟨_, rfl⟩
  rw [hbt] at hst hb
  have hyb : y < 2 ^ 126 := by
    have h1 : x / 2 ^ n ≤ x := Nat.div_le_self _ _
    omega
  have hzd : z < d := by rw [← hz]; exact Nat.mod_lt _ hd
  obtain ⟨Y, hY⟩ : ∃ v, y / d = v := ⟨_, rfl⟩
  have hYb : Y < 2 ^ 126 := Nat.lt_of_le_of_lt (by rw [← hY]; exact Nat.div_le_self _ _) hyb
  obtain ⟨e1, e2⟩ := dbl_wide Y (by omega)
  obtain ⟨s1, s2⟩ := div_step y d bt hd hb
  rw [hY] at hqh hql s1
  rw [hqh, hql] at e1
  rw [hql] at e2
  rw [hz] at s1 s2
  refine ⟨bt, 2 * z, 2 * z + bt, 2 * Y / 18446744073709551616, 2 * Y % 18446744073709551616, 2 * Y % 18446744073709551616 + 1, hbt, hst, ?_, ?_, by omega, ?_, ?_, ?_, fun h => ?_, fun h => ?_⟩
  · rw [u64_in (by omega) (by omega)]; omega
  · rw [u64_in (by omega) (by omega)]; omega
  · have hq2 : IntKind.u64.wrap ((qh : Int) * 2) = ((qh * 2 : Nat) : Int) := by rw [u64_in (by omega) (by omega)]; omega
    have hq3 : (ql : Int) / 9223372036854775808 = ((ql / 9223372036854775808 : Nat) : Int) := by omega
    rw [hq2, hq3, or_u64 _ _ (by omega) (by omega), e1]
  · show ((ql : Int) * 2) % 18446744073709551616 = _
    omega
  · have := or_u64 (2 * Y % 18446744073709551616) 1 (by omega) (by omega)
    rw [or_one _ (by omega)] at this
    exact this
  · rw [if_neg (by omega)] at s1 s2
    rw [s1, s2]
    exact ⟨by omega, rfl, rfl⟩
  · rw [if_pos (by omega)] at s1 s2
    rw [s1, s2]
    exact ⟨by omega, by omega, by omega⟩
/-- What the loop keeps. -/
def SpA (w : World) (x q : Nat) (wr : World) : Prop := C2 wr w.heap.size (.int .u64 ((x / 18446744073709551616 : Nat) : Int)) (.int .u64 ((x % 18446744073709551616 : Nat) : Int)) ∧ C2 wr (w.heap.size + 1) (.int .u64 0) (.int .u64 0) ∧ C2 wr (w.heap.size + 1 + 1) (.int .u64 ((q / 18446744073709551616 : Nat) : Int)) (.int .u64 ((q % 18446744073709551616 : Nat) : Int)) ∧ Below w.heap.size w wr
set_option maxRecDepth 20000 in
set_option maxHeartbeats 3200000 in
theorem l01Split_any (x d : Nat) (w : World) (hx : x < 2 ^ 127) (hd : 0 < d) (hd2 : d < 4611686018427387904) : Calls Try.prog 92 #[wv x, .int .i64 (d : Nat)] w fun e w' => e = .returned (.tuple #[wv (x / d), .int .i64 ((x % d : Nat) : Int)]) ∧ Below w.heap.size w w' := by
  have hA : SpA w x 0 (((w.alloc (.cells #[.int .u64 ((x / 18446744073709551616 : Nat) : Int), .int .u64 ((x % 18446744073709551616 : Nat) : Int)] 121)).alloc (.cells #[.int .u64 0, .int .u64 0] 121)).alloc (.cells #[.int .u64 0, .int .u64 0] 121)) := by
    obtain ⟨t0, t1, t2⟩ := three_boxes w (.cells #[.int .u64 ((x / 18446744073709551616 : Nat) : Int), .int .u64 ((x % 18446744073709551616 : Nat) : Int)] 121) (.cells #[.int .u64 0, .int .u64 0] 121) (.cells #[.int .u64 0, .int .u64 0] 121)
    exact ⟨C2.of_heap t0, C2.of_heap t1, C2.of_heap t2, (((Below.refl _ w).alloc (Nat.le_refl _) _).alloc (by simp) _).alloc (by simp only [alloc_size]; omega) _⟩
  have HA := Lib.hid hA
  clear hA
  unfold wv
  obtain ⟨xh, hxh⟩ : ∃ v, x / 18446744073709551616 = v := ⟨_, rfl⟩
  obtain ⟨xl, hxl⟩ : ∃ v, x % 18446744073709551616 = v := ⟨_, rfl⟩
  unfold SpA at HA
  rw [hxh, hxl] at HA ⊢
  have hxhb : xh < 9223372036854775808 := by omega
  have hxlb : xl < 18446744073709551616 := by omega
  obtain ⟨p', hp'⟩ : ∃ v, x / d / 18446744073709551616 = v := ⟨_, rfl⟩
  obtain ⟨q', hq'⟩ : ∃ v, x / d % 18446744073709551616 = v := ⟨_, rfl⟩
  obtain ⟨r', hr'⟩ : ∃ v, x % d = v := ⟨_, rfl⟩
  rw [hp', hq', hr']
  have HE := Lib.hid (And.intro hxh (And.intro hxl (And.intro hp' (And.intro hq' (And.intro hr' (And.intro hx hd))))))
  clear hxh hxl hp' hq' hr' hx hd
  go_enter Try.func92, Try.ntmps92
  go_wp2_with fail
  go_loopw [8, 7] (fun i c wr => ∃ (n y z qh ql : Nat), n ≤ 128 ∧ i = .int .i64 ((n : Int) - 1) ∧ c = .int .u64 (z : Nat) ∧ Hid (x / 2 ^ n = y ∧ y % d = z ∧ y / d / 18446744073709551616 = qh ∧ y / d % 18446744073709551616 = ql ∧ C2 wr w.heap.size (.int .u64 (xh : Int)) (.int .u64 (xl : Int)) ∧ C2 wr (w.heap.size + 1) (.int .u64 0) (.int .u64 0) ∧ C2 wr (w.heap.size + 1 + 1) (.int .u64 (qh : Int)) (.int .u64 (ql : Int)) ∧ Below w.heap.size w wr)) (fun i _ _ => (intOf i + 1).toNat)
  case atStart =>
    have hz : x / 2 ^ 128 = 0 := Nat.div_eq_of_lt (Nat.lt_of_lt_of_le HE.out.2.2.2.2.2.1 (by decide))
    refine ⟨128, 0, 0, 0, 0, Nat.le_refl _, by first | rfl | (simp; done), rfl, Lib.hid ⟨hz, by simp, by simp, by simp, ?_⟩⟩
    simpa using HA.out
  case round =>
    clear HA
    obtain ⟨n, y, z, qh, ql, hn, rfl, rfl, HR⟩ := hrel
    cases n with
    | zero =>
      obtain ⟨u0, u1, u2, u3, u4⟩ := HR.out.2.2.2.2.2.2.1
      obtain ⟨v0, v1, v2, v3, v4⟩ := HR.out.2.2.2.2.2.1
      have hm1 : ((0 : Nat) : Int) - 1 = -1 := rfl
      obtain ⟨e1, e2, e3, e4, _⟩ := HR.out
      have hy : y = x := by rw [← e1]; simp
      subst hy
      have hzz : z = r' := e2.symm.trans HE.out.2.2.2.2.1
      have hqq : qh = p' := e3.symm.trans HE.out.2.2.1
      have hll : ql = q' := e4.symm.trans HE.out.2.2.2.1
      subst hzz hqq hll
      have hzb : z < d := by rw [← e2]; exact Nat.mod_lt _ HE.out.2.2.2.2.2.2
      have hzw : IntKind.i64.wrap (z : Int) = (z : Int) := IntWalk.i64_in _ (by omega)
      clear e1 e2 e3 e4
      rw [hm1]
      go_wp2_with fail
      refine bodyPost_ret (v := .tuple #[.agg #[.int .u64 (qh : Int), .int .u64 (ql : Int)], .int .i64 (z : Int)]) (by simp [results, Try.results92, go_sem, *]) rfl ⟨rfl, ?_⟩
      exact (HR.out.2.2.2.2.2.2.2.setCell (p := ⟨w.heap.size + 1, 0, none⟩) (by show w.heap.size ≤ w.heap.size + 1; omega) _).setCell (p := ⟨w.heap.size + 1, 1, none⟩) (by show w.heap.size ≤ w.heap.size + 1; omega) _
    | succ n =>
      rw [show (((n + 1 : Nat) : Int) - 1) = (n : Int) by omega]
      have hn0 : (0 : Int) ≤ (n : Int) := by omega
      obtain ⟨k0, k1, _, _, _⟩ := HR.out.2.2.2.2.1
      obtain ⟨u0, u1, u2, u3, u4⟩ := HR.out.2.2.2.2.2.2.1
      obtain ⟨bt, Z2, R, qh2, ql2, ql3, HS0⟩ := spR_of HE.out.2.2.2.2.2.1 HE.out.2.2.2.2.2.2 hd2 HR.out.1 HR.out.2.1 HR.out.2.2.1 HR.out.2.2.2.1
      have HS := Lib.hid HS0
      obtain ⟨f1, f2, f3, f4, f5, f6, f7, f8, f9, f10⟩ := HS0
      clear f1 f2 f9 f10
      by_cases h64 : n < 64
      · have h64i : ¬ (64 : Int) ≤ (n : Int) := by omega
        have hbit : bits .and .u64 ((xl : Int) / 2 ^ (n % 64)) 1 = (bt : Int) := by
          have e : (xl : Int) / 2 ^ (n % 64) = ((xl / 2 ^ n : Nat) : Int) := by rw [Nat.mod_eq_of_lt h64]; simp
          have hle : xl / 2 ^ n ≤ xl := Nat.div_le_self _ _
          rw [e, and_one _ (by omega), ← HS.out.hbt, ← bit_low x n h64, HE.out.2.1]
        by_cases hdr : (d : Int) ≤ (R : Int)
        · obtain ⟨g1, g2, g3⟩ := HS.out.hyes (by omega)
          have hsub : IntKind.u64.wrap ((R : Int) - (d : Int)) = ((R - d : Nat) : Int) := by rw [u64_in (by omega) (by omega)]; omega
          obtain ⟨R2, hR2⟩ : ∃ v, R - d = v := ⟨_, rfl⟩
          rw [hR2] at hsub g1
          have HG := Lib.hid (And.intro g1 (And.intro g2 g3))
          clear g1 g2 g3 hR2
          go_wp2_with fail
          go_roundw
          case rel => exact ⟨n, _, R2, qh2, ql3, by omega, rfl, rfl, Lib.hid ⟨HS.out.hy, HG.out.1, HG.out.2.1, HG.out.2.2, ((HR.out.2.2.2.2.1.other (by omega) _).other (by omega) _).other (by omega) _, ((HR.out.2.2.2.2.2.1.other (by omega) _).other (by omega) _).other (by omega) _, ((HR.out.2.2.2.2.2.2.1.set0 _).set1 _).set1 _, ((HR.out.2.2.2.2.2.2.2.setCell (p := ⟨w.heap.size + 1 + 1, 0, none⟩) (by show w.heap.size ≤ w.heap.size + 1 + 1; omega) _).setCell (p := ⟨w.heap.size + 1 + 1, 1, none⟩) (by show w.heap.size ≤ w.heap.size + 1 + 1; omega) _).setCell (p := ⟨w.heap.size + 1 + 1, 1, none⟩) (by show w.heap.size ≤ w.heap.size + 1 + 1; omega) _⟩⟩
          case measure => simp [intOf]
        · obtain ⟨g1, g2, g3⟩ := HS.out.hno (by omega)
          have HG := Lib.hid (And.intro g1 (And.intro g2 g3))
          clear g1 g2 g3
          go_wp2_with fail
          go_roundw
          case rel => exact ⟨n, _, R, qh2, ql2, by omega, rfl, rfl, Lib.hid ⟨HS.out.hy, HG.out.1, HG.out.2.1, HG.out.2.2, (HR.out.2.2.2.2.1.other (by omega) _).other (by omega) _, (HR.out.2.2.2.2.2.1.other (by omega) _).other (by omega) _, (HR.out.2.2.2.2.2.2.1.set0 _).set1 _, (HR.out.2.2.2.2.2.2.2.setCell (p := ⟨w.heap.size + 1 + 1, 0, none⟩) (by show w.heap.size ≤ w.heap.size + 1 + 1; omega) _).setCell (p := ⟨w.heap.size + 1 + 1, 1, none⟩) (by show w.heap.size ≤ w.heap.size + 1 + 1; omega) _⟩⟩
          case measure => simp [intOf]
      · have h64i : (64 : Int) ≤ (n : Int) := by omega
        have hbit : bits .and .u64 ((xh : Int) / 2 ^ (n - 64)) 1 = (bt : Int) := by
          have e : (xh : Int) / 2 ^ (n - 64) = ((xh / 2 ^ (n - 64) : Nat) : Int) := by simp
          have hle : xh / 2 ^ (n - 64) ≤ xh := Nat.div_le_self _ _
          rw [e, and_one _ (by omega), ← HS.out.hbt, ← bit_high x n (by omega), HE.out.1]
        by_cases hdr : (d : Int) ≤ (R : Int)
        · obtain ⟨g1, g2, g3⟩ := HS.out.hyes (by omega)
          have hsub : IntKind.u64.wrap ((R : Int) - (d : Int)) = ((R - d : Nat) : Int) := by rw [u64_in (by omega) (by omega)]; omega
          obtain ⟨R2, hR2⟩ : ∃ v, R - d = v := ⟨_, rfl⟩
          rw [hR2] at hsub g1
          have HG := Lib.hid (And.intro g1 (And.intro g2 g3))
          clear g1 g2 g3 hR2
          go_wp2_with fail
          go_roundw
          case rel => exact ⟨n, _, R2, qh2, ql3, by omega, rfl, rfl, Lib.hid ⟨HS.out.hy, HG.out.1, HG.out.2.1, HG.out.2.2, ((HR.out.2.2.2.2.1.other (by omega) _).other (by omega) _).other (by omega) _, ((HR.out.2.2.2.2.2.1.other (by omega) _).other (by omega) _).other (by omega) _, ((HR.out.2.2.2.2.2.2.1.set0 _).set1 _).set1 _, ((HR.out.2.2.2.2.2.2.2.setCell (p := ⟨w.heap.size + 1 + 1, 0, none⟩) (by show w.heap.size ≤ w.heap.size + 1 + 1; omega) _).setCell (p := ⟨w.heap.size + 1 + 1, 1, none⟩) (by show w.heap.size ≤ w.heap.size + 1 + 1; omega) _).setCell (p := ⟨w.heap.size + 1 + 1, 1, none⟩) (by show w.heap.size ≤ w.heap.size + 1 + 1; omega) _⟩⟩
          case measure => simp [intOf]
        · obtain ⟨g1, g2, g3⟩ := HS.out.hno (by omega)
          have HG := Lib.hid (And.intro g1 (And.intro g2 g3))
          clear g1 g2 g3
          go_wp2_with fail
          go_roundw
          case rel => exact ⟨n, _, R, qh2, ql2, by omega, rfl, rfl, Lib.hid ⟨HS.out.hy, HG.out.1, HG.out.2.1, HG.out.2.2, (HR.out.2.2.2.2.1.other (by omega) _).other (by omega) _, (HR.out.2.2.2.2.2.1.other (by omega) _).other (by omega) _, (HR.out.2.2.2.2.2.2.1.set0 _).set1 _, (HR.out.2.2.2.2.2.2.2.setCell (p := ⟨w.heap.size + 1 + 1, 0, none⟩) (by show w.heap.size ≤ w.heap.size + 1 + 1; omega) _).setCell (p := ⟨w.heap.size + 1 + 1, 1, none⟩) (by show w.heap.size ≤ w.heap.size + 1 + 1; omega) _⟩⟩
          case measure => simp [intOf]
end Go.Proofs.Ytklnfhjgbmfilaa
