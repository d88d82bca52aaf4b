import Derived.Test.YtklnfhjgbmfilaaRat6
import Derived.BigQuiet
import Derived.Test.YtklnfhjgbmfilaaU64
/- The reference's wide numbers: products of two numbers below 2 to the power of 63. No other condition. -/
namespace Go.Proofs.Ytklnfhjgbmfilaa
open Go.RowKit
set_option linter.unusedVariables false

theorem u64_in {n : Int} (h0 : 0 ≤ n) (h1 : n < 18446744073709551616) : IntKind.u64.wrap n = n := by
  show n % 18446744073709551616 = n
  omega
set_option maxRecDepth 20000 in
set_option maxHeartbeats 1600000 in
theorem l01Times_any (x y : Nat) (w : World) (hx : x < 9223372036854775808) (hy : y < 9223372036854775808) :
    Calls Try.prog 88 #[.int .i64 (x : Nat), .int .i64 (y : Nat)] w fun e w' => e = .returned (.agg #[.int .u64 ((x * y / 18446744073709551616 : Nat) : Int), .int .u64 ((x * y % 18446744073709551616 : Nat) : Int)]) ∧ Below w.heap.size w w' := by
  obtain ⟨xl, hxl⟩ : ∃ v, x % 4294967296 = v := ⟨_, rfl⟩
  obtain ⟨xh, hxh⟩ : ∃ v, x / 4294967296 = v := ⟨_, rfl⟩
  obtain ⟨yl, hyl⟩ : ∃ v, y % 4294967296 = v := ⟨_, rfl⟩
  obtain ⟨yh, hyh⟩ : ∃ v, y / 4294967296 = v := ⟨_, rfl⟩
  have b1 : xl < 4294967296 := by omega
  have b2 : xh < 2147483648 := by omega
  have b3 : yl < 4294967296 := by omega
  have b4 : yh < 2147483648 := by omega
  obtain ⟨L, hL⟩ : ∃ v, xl * yl = v := ⟨_, rfl⟩
  obtain ⟨O, hO⟩ : ∃ v, xh * yl = v := ⟨_, rfl⟩
  obtain ⟨T, hT⟩ : ∃ v, xl * yh = v := ⟨_, rfl⟩
  obtain ⟨H, hH⟩ : ∃ v, xh * yh = v := ⟨_, rfl⟩
  have bL : L < 18446744073709551616 := by have := Nat.mul_lt_mul'' b1 b3; rw [hL] at this; omega
  have bO : O < 18446744073709551616 := by have := Nat.mul_lt_mul'' b2 b3; rw [hO] at this; omega
  have bT : T < 18446744073709551616 := by have := Nat.mul_lt_mul'' b1 b4; rw [hT] at this; omega
  have bH : H < 4611686018427387904 := by have := Nat.mul_lt_mul'' b2 b4; rw [hH] at this; omega
  have hZ := wide_mul 4294967296 xh xl yh yl (L / 4294967296) (L % 4294967296) (O / 4294967296) (O % 4294967296) (T / 4294967296) (T % 4294967296) ((L / 4294967296 + O % 4294967296 + T % 4294967296) / 4294967296) ((L / 4294967296 + O % 4294967296 + T % 4294967296) % 4294967296) (by rw [hL]; omega) (by rw [hO]; omega) (by rw [hT]; omega) (by omega)
  rw [show xh * 4294967296 + xl = x from by omega, show yh * 4294967296 + yl = y from by omega, hH] at hZ
  obtain ⟨l1, hl1⟩ : ∃ v, L / 4294967296 = v := ⟨_, rfl⟩
  obtain ⟨l0, hl0⟩ : ∃ v, L % 4294967296 = v := ⟨_, rfl⟩
  obtain ⟨o1, ho1⟩ : ∃ v, O / 4294967296 = v := ⟨_, rfl⟩
  obtain ⟨o0, ho0⟩ : ∃ v, O % 4294967296 = v := ⟨_, rfl⟩
  obtain ⟨t1, ht1⟩ : ∃ v, T / 4294967296 = v := ⟨_, rfl⟩
  obtain ⟨t0, ht0⟩ : ∃ v, T % 4294967296 = v := ⟨_, rfl⟩
  rw [hl1, hl0, ho1, ho0, ht1, ht0] at hZ
  obtain ⟨S, hS⟩ : ∃ v, l1 + o0 = v := ⟨_, rfl⟩
  obtain ⟨M, hM⟩ : ∃ v, S + t0 = v := ⟨_, rfl⟩
  rw [hS, hM] at hZ
  obtain ⟨m1, hm1⟩ : ∃ v, M / 4294967296 = v := ⟨_, rfl⟩
  obtain ⟨m0, hm0⟩ : ∃ v, M % 4294967296 = v := ⟨_, rfl⟩
  rw [hm1, hm0] at hZ
  have c1 : l0 < 4294967296 := by omega
  have c2 : o0 < 4294967296 := by omega
  have c3 : t0 < 4294967296 := by omega
  have c4 : m0 < 4294967296 := by omega
  have c5 : M < 12884901888 := by omega
  obtain ⟨H1, hH1⟩ : ∃ v, H + o1 = v := ⟨_, rfl⟩
  obtain ⟨H2, hH2⟩ : ∃ v, H1 + t1 = v := ⟨_, rfl⟩
  obtain ⟨H3, hH3⟩ : ∃ v, H2 + m1 = v := ⟨_, rfl⟩
  rw [hH1, hH2, hH3] at hZ
  have HZ := Lib.hid (show x * y / 18446744073709551616 = H3 ∧ x * y % 18446744073709551616 = m0 * 4294967296 + l0 by
    rw [hZ]
    omega)
  have h1 : IntKind.u64.wrap (x : Int) = (x : Int) := u64_in (by omega) (by omega)
  have h2 : IntKind.u64.wrap (y : Int) = (y : Int) := u64_in (by omega) (by omega)
  have e1 : (x : Int) % 4294967296 = (xl : Int) := by omega
  have e2 : (x : Int) / 4294967296 = (xh : Int) := by omega
  have e3 : (y : Int) % 4294967296 = (yl : Int) := by omega
  have e4 : (y : Int) / 4294967296 = (yh : Int) := by omega
  have e5 : (xl : Int) * (yl : Int) = (L : Int) := by rw [← hL]; simp
  have e6 : (xh : Int) * (yl : Int) = (O : Int) := by rw [← hO]; simp
  have e7 : (xl : Int) * (yh : Int) = (T : Int) := by rw [← hT]; simp
  have e8 : (xh : Int) * (yh : Int) = (H : Int) := by rw [← hH]; simp
  have e9 : IntKind.u64.wrap (L : Int) = (L : Int) := u64_in (by omega) (by omega)
  have e10 : IntKind.u64.wrap (O : Int) = (O : Int) := u64_in (by omega) (by omega)
  have e11 : IntKind.u64.wrap (T : Int) = (T : Int) := u64_in (by omega) (by omega)
  have e12 : IntKind.u64.wrap (H : Int) = (H : Int) := u64_in (by omega) (by omega)
  have e13 : (L : Int) / 4294967296 = (l1 : Int) := by omega
  have e14 : (L : Int) % 4294967296 = (l0 : Int) := by omega
  have e15 : (O : Int) / 4294967296 = (o1 : Int) := by omega
  have e16 : (O : Int) % 4294967296 = (o0 : Int) := by omega
  have e17 : (T : Int) / 4294967296 = (t1 : Int) := by omega
  have e18 : (T : Int) % 4294967296 = (t0 : Int) := by omega
  have e19 : (M : Int) / 4294967296 = (m1 : Int) := by omega
  have e20 : IntKind.u64.wrap ((l1 : Int) + (o0 : Int)) = (S : Int) := by rw [u64_in (by omega) (by omega)]; omega
  have e21 : IntKind.u64.wrap ((S : Int) + (t0 : Int)) = (M : Int) := by rw [u64_in (by omega) (by omega)]; omega
  have e22 : IntKind.u64.wrap ((H : Int) + (o1 : Int)) = (H1 : Int) := by rw [u64_in (by omega) (by omega)]; omega
  have e23 : IntKind.u64.wrap ((H1 : Int) + (t1 : Int)) = (H2 : Int) := by rw [u64_in (by omega) (by omega)]; omega
  have e24 : IntKind.u64.wrap ((H2 : Int) + (m1 : Int)) = (H3 : Int) := by rw [u64_in (by omega) (by omega)]; omega
  have e25 : IntKind.u64.wrap (l1 : Int) = (l1 : Int) := u64_in (by omega) (by omega)
  have e26 : IntKind.u64.wrap (o1 : Int) = (o1 : Int) := u64_in (by omega) (by omega)
  have e27 : IntKind.u64.wrap (t1 : Int) = (t1 : Int) := u64_in (by omega) (by omega)
  have e28 : IntKind.u64.wrap (m1 : Int) = (m1 : Int) := u64_in (by omega) (by omega)
  have e29 : bits .or .u64 (IntKind.u64.wrap ((M : Int) * 4294967296)) (l0 : Int) = ((x * y % 18446744073709551616 : Nat) : Int) := by
    have hw : IntKind.u64.wrap ((M : Int) * 4294967296) = ((m0 * 4294967296 : Nat) : Int) := by
      show ((M : Int) * 4294967296) % 18446744073709551616 = _
      omega
    rw [hw, or_u64 _ _ (by omega) (by omega), HZ.out.2]
    have := Nat.two_pow_add_eq_or_of_lt (i := 32) (b := l0) (by omega) m0
    rw [Nat.mul_comm m0, show (4294967296 : Nat) = 2 ^ 32 from rfl, ← this]
  have e30 : (H3 : Int) = ((x * y / 18446744073709551616 : Nat) : Int) := by rw [HZ.out.1]
  have HM := Lib.hid (And.intro hm0 (And.intro c1 (And.intro c4 c5)))
  clear hxl hxh hyl hyh hL hO hT hH hl1 hl0 ho1 ho0 ht1 ht0 hS hM hm1 hm0 hH1 hH2 hH3 hZ b1 b2 b3 b4 bL bO bT bH c1 c2 c3 c4 c5 HM
  have E30 := Lib.hid e30
  clear e30
  go_enter Try.func88, Try.ntmps88
  go_upto_region 4 with fail
  go_quiet (fail)
  go_upto_region 5 with fail
  go_quiet (fail)
  go_upto_region 6 with fail
  go_quiet (fail)
  go_upto_region 7 with fail
  go_quiet (fail)
  go_upto_region 8 with fail
  go_region
  go_wp2
  refine bodyPost_ret (v := .agg #[.int .u64 (H3 : Int), .int .u64 ((x * y % 18446744073709551616 : Nat) : Int)]) (by simp [results, Try.results88, go_sem]) rfl ⟨by rw [E30.out], ?_⟩
  exact (((bthen ((Below.refl _ w).alloc (Nat.le_refl _) _) (drewN_below _ _)).setCell (p := ⟨w.heap.size, 0, none⟩) (Nat.le_refl _) _).setCell (p := ⟨w.heap.size, 1, none⟩) (Nat.le_refl _) _)
set_option maxHeartbeats 800000 in
theorem l01Small_any (z : Nat) (w : World) : Calls Try.prog 93 #[.agg #[.int .u64 ((z / 18446744073709551616 : Nat) : Int), .int .u64 ((z % 18446744073709551616 : Nat) : Int)]] w fun e w' => e = .returned (if z ≤ 1000000000000000000 then .tuple #[.int .i64 (z : Int), .bool true] else .tuple #[.int .i64 0, .bool false]) ∧ Below w.heap.size w w' := by
  obtain ⟨h, hh⟩ : ∃ h, z / 18446744073709551616 = h := ⟨_, rfl⟩
  obtain ⟨l, hl⟩ : ∃ l, z % 18446744073709551616 = l := ⟨_, rfl⟩
  rw [hh, hl]
  by_cases h0 : 0 < h
  · rw [if_neg (show ¬ z ≤ 1000000000000000000 by omega)]
    have h0' : (0 : Int) < (h : Int) := by omega
    clear hh hl
    go_enter Try.func93, Try.ntmps93
    go_wp2_with fail
    go_ret2
    exact ⟨rfl, (Below.refl _ w).alloc (Nat.le_refl _) _⟩
  · obtain rfl : h = 0 := by omega
    by_cases h1 : 1000000000000000000 < l
    · rw [if_neg (show ¬ z ≤ 1000000000000000000 by omega)]
      have h1' : (1000000000000000000 : Int) < (l : Int) := by omega
      clear hh hl
      go_enter Try.func93, Try.ntmps93
      go_wp2_with fail
      go_ret2
      exact ⟨rfl, (Below.refl _ w).alloc (Nat.le_refl _) _⟩
    · rw [if_pos (show z ≤ 1000000000000000000 by omega)]
      obtain rfl : l = z := by omega
      have h1' : ¬ (1000000000000000000 : Int) < (l : Int) := by omega
      have hw : IntKind.i64.wrap (l : Int) = (l : Int) := IntWalk.i64_in _ (by omega)
      clear hh hl
      go_enter Try.func93, Try.ntmps93
      go_wp2_with fail
      go_ret2
      exact ⟨rfl, (Below.refl _ w).alloc (Nat.le_refl _) _⟩
end Go.Proofs.Ytklnfhjgbmfilaa
