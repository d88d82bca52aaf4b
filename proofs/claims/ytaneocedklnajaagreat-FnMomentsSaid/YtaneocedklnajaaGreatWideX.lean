import Derived.Test.YtaneocedklnajaaGreatBase
import Derived.Test.YtaneocedklnajaaGreatRatY
import Derived.BigQuiet
import Derived.Test.YtaneocedklnajaaGreatRatQX
import Derived.Deep.CutBlock
/- Bit by bit on uint64: plain facts. No condition. -/
namespace Go.Proofs.YtaneocedklnajaaGreat
open Go.RowKit
set_option linter.unusedVariables false

theorem toNat_ofIntU (a : Nat) (h : a < 18446744073709551616) : (BitVec.ofInt 64 (a : Int)).toNat = a := by
  rw [BitVec.ofInt_natCast, BitVec.toNat_ofNat]; exact Nat.mod_eq_of_lt (by omega)
theorem wrap_u64 (a : Nat) (h : a < 18446744073709551616) : IntKind.u64.wrap (a : Int) = (a : Int) := by
  show ((a : Int) % 18446744073709551616) = a
  omega
theorem xor_u64 (a b : Nat) (ha : a < 18446744073709551616) (hb : b < 18446744073709551616) : bits .xor .u64 (a : Int) (b : Int) = ((a ^^^ b : Nat) : Int) := by
  have hx : a ^^^ b < 2 ^ 64 := Nat.xor_lt_two_pow (by omega) (by omega)
  show IntKind.u64.wrap ((BitVec.ofInt 64 (a : Int) ^^^ BitVec.ofInt 64 (b : Int)).toNat : Int) = _
  rw [BitVec.toNat_xor, toNat_ofIntU a ha, toNat_ofIntU b hb]
  exact wrap_u64 _ (by omega)
end Go.Proofs.YtaneocedklnajaaGreat
/- The reference's wide numbers: products of two numbers below 2 to the power of 63. No other condition. -/
namespace Go.Proofs.YtaneocedklnajaaGreat
open Go.RowKit
set_option linter.unusedVariables false

theorem u64_in {n : Int} (h0 : 0 ≤ n) (h1 : n < 18446744073709551616) : IntKind.u64.wrap n = n := by
  show n % 18446744073709551616 = n
  omega
set_option maxRecDepth 20000 in
set_option maxHeartbeats 1600000 in
theorem l01Times_any (x y : Nat) (w : World) (hx : x < 9223372036854775808) (hy : y < 9223372036854775808) :
    Calls Tryz.prog 102 #[.int .i64 (x : Nat), .int .i64 (y : Nat)] w fun e w' => e = .returned (.agg #[.int .u64 ((x * y / 18446744073709551616 : Nat) : Int), .int .u64 ((x * y % 18446744073709551616 : Nat) : Int)]) ∧ Below w.heap.size w w' := by
  obtain ⟨xl, hxl⟩ : ∃ v, x % 4294967296 = v := ⟨_, rfl⟩
  obtain ⟨xh, hxh⟩ : ∃ v, x / 4294967296 = v := ⟨_, rfl⟩
  obtain ⟨yl, hyl⟩ : ∃ v, y % 4294967296 = v := ⟨_, rfl⟩
  obtain ⟨yh, hyh⟩ : ∃ v, y / 4294967296 = v := ⟨_, rfl⟩
  have b1 : xl < 4294967296 := by omega
  have b2 : xh < 2147483648 := by omega
  have b3 : yl < 4294967296 := by omega
  have b4 : yh < 2147483648 := by omega
  obtain ⟨L, hL⟩ : ∃ v, xl * yl = v := ⟨_, rfl⟩
  obtain ⟨O, hO⟩ : ∃ v, xh * yl = v := ⟨_, rfl⟩
  obtain ⟨T, hT⟩ : ∃ v, xl * yh = v := ⟨_, rfl⟩
  obtain ⟨H, hH⟩ : ∃ v, xh * yh = v := ⟨_, rfl⟩
  have bL : L < 18446744073709551616 := by have := Nat.mul_lt_mul'' b1 b3; rw [hL] at this; omega
  have bO : O < 18446744073709551616 := by have := Nat.mul_lt_mul'' b2 b3; rw [hO] at this; omega
  have bT : T < 18446744073709551616 := by have := Nat.mul_lt_mul'' b1 b4; rw [hT] at this; omega
  have bH : H < 4611686018427387904 := by have := Nat.mul_lt_mul'' b2 b4; rw [hH] at this; omega
  have hZ := wide_mul 4294967296 xh xl yh yl (L / 4294967296) (L % 4294967296) (O / 4294967296) (O % 4294967296) (T / 4294967296) (T % 4294967296) ((L / 4294967296 + O % 4294967296 + T % 4294967296) / 4294967296) ((L / 4294967296 + O % 4294967296 + T % 4294967296) % 4294967296) (by rw [hL]; omega) (by rw [hO]; omega) (by rw [hT]; omega) (by omega)
  rw [show xh * 4294967296 + xl = x from by omega, show yh * 4294967296 + yl = y from by omega, hH] at hZ
  obtain ⟨l1, hl1⟩ : ∃ v, L / 4294967296 = v := ⟨_, rfl⟩
  obtain ⟨l0, hl0⟩ : ∃ v, L % 4294967296 = v := ⟨_, rfl⟩
  obtain ⟨o1, ho1⟩ : ∃ v, O / 4294967296 = v := ⟨_, rfl⟩
  obtain ⟨o0, ho0⟩ : ∃ v, O % 4294967296 = v := ⟨_, rfl⟩
  obtain ⟨t1, ht1⟩ : ∃ v, T / 4294967296 = v := ⟨_, rfl⟩
  obtain ⟨t0, ht0⟩ : ∃ v, T % 4294967296 = v := ⟨_, rfl⟩
  rw [hl1, hl0, ho1, ho0, ht1, ht0] at hZ
  obtain ⟨S, hS⟩ : ∃ v, l1 + o0 = v := ⟨_, rfl⟩
  obtain ⟨M, hM⟩ : ∃ v, S + t0 = v := ⟨_, rfl⟩
  rw [hS, hM] at hZ
  obtain ⟨m1, hm1⟩ : ∃ v, M / 4294967296 = v := ⟨_, rfl⟩
  obtain ⟨m0, hm0⟩ : ∃ v, M % 4294967296 = v := ⟨_, rfl⟩
  rw [hm1, hm0] at hZ
  have c1 : l0 < 4294967296 := by omega
  have c2 : o0 < 4294967296 := by omega
  have c3 : t0 < 4294967296 := by omega
  have c4 : m0 < 4294967296 := by omega
  have c5 : M < 12884901888 := by omega
  obtain ⟨H1, hH1⟩ : ∃ v, H + o1 = v := ⟨_, rfl⟩
  obtain ⟨H2, hH2⟩ : ∃ v, H1 + t1 = v := ⟨_, rfl⟩
  obtain ⟨H3, hH3⟩ : ∃ v, H2 + m1 = v := ⟨_, rfl⟩
  rw [hH1, hH2, hH3] at hZ
  have HZ := Lib.hid (show x * y / 18446744073709551616 = H3 ∧ x * y % 18446744073709551616 = m0 * 4294967296 + l0 by
    rw [hZ]
    omega)
  have h1 : IntKind.u64.wrap (x : Int) = (x : Int) := u64_in (by omega) (by omega)
  have h2 : IntKind.u64.wrap (y : Int) = (y : Int) := u64_in (by omega) (by omega)
  have e1 : (x : Int) % 4294967296 = (xl : Int) := by omega
  have e2 : (x : Int) / 4294967296 = (xh : Int) := by omega
  have e3 : (y : Int) % 4294967296 = (yl : Int) := by omega
  have e4 : (y : Int) / 4294967296 = (yh : Int) := by omega
  have e5 : (xl : Int) * (yl : Int) = (L : Int) := by rw [← hL]; simp
  have e6 : (xh : Int) * (yl : Int) = (O : Int) := by rw [← hO]; simp
  have e7 : (xl : Int) * (yh : Int) = (T : Int) := by rw [← hT]; simp
  have e8 : (xh : Int) * (yh : Int) = (H : Int) := by rw [← hH]; simp
  have e9 : IntKind.u64.wrap (L : Int) = (L : Int) := u64_in (by omega) (by omega)
  have e10 : IntKind.u64.wrap (O : Int) = (O : Int) := u64_in (by omega) (by omega)
  have e11 : IntKind.u64.wrap (T : Int) = (T : Int) := u64_in (by omega) (by omega)
  have e12 : IntKind.u64.wrap (H : Int) = (H : Int) := u64_in (by omega) (by omega)
  have e13 : (L : Int) / 4294967296 = (l1 : Int) := by omega
  have e14 : (L : Int) % 4294967296 = (l0 : Int) := by omega
  have e15 : (O : Int) / 4294967296 = (o1 : Int) := by omega
  have e16 : (O : Int) % 4294967296 = (o0 : Int) := by omega
  have e17 : (T : Int) / 4294967296 = (t1 : Int) := by omega
  have e18 : (T : Int) % 4294967296 = (t0 : Int) := by omega
  have e19 : (M : Int) / 4294967296 = (m1 : Int) := by omega
  have e20 : IntKind.u64.wrap ((l1 : Int) + (o0 : Int)) = (S : Int) := by rw [u64_in (by omega) (by omega)]; omega
  have e21 : IntKind.u64.wrap ((S : Int) + (t0 : Int)) = (M : Int) := by rw [u64_in (by omega) (by omega)]; omega
  have e22 : IntKind.u64.wrap ((H : Int) + (o1 : Int)) = (H1 : Int) := by rw [u64_in (by omega) (by omega)]; omega
  have e23 : IntKind.u64.wrap ((H1 : Int) + (t1 : Int)) = (H2 : Int) := by rw [u64_in (by omega) (by omega)]; omega
  have e24 : IntKind.u64.wrap ((H2 : Int) + (m1 : Int)) = (H3 : Int) := by rw [u64_in (by omega) (by omega)]; omega
  have e25 : IntKind.u64.wrap (l1 : Int) = (l1 : Int) := u64_in (by omega) (by omega)
  have e26 : IntKind.u64.wrap (o1 : Int) = (o1 : Int) := u64_in (by omega) (by omega)
  have e27 : IntKind.u64.wrap (t1 : Int) = (t1 : Int) := u64_in (by omega) (by omega)
  have e28 : IntKind.u64.wrap (m1 : Int) = (m1 : Int) := u64_in (by omega) (by omega)
  have e29 : bits .or .u64 (IntKind.u64.wrap ((M : Int) * 4294967296)) (l0 : Int) = ((x * y % 18446744073709551616 : Nat) : Int) := by
    have hw : IntKind.u64.wrap ((M : Int) * 4294967296) = ((m0 * 4294967296 : Nat) : Int) := by
      show ((M : Int) * 4294967296) % 18446744073709551616 = _
      omega
    rw [hw, or_u64 _ _ (by omega) (by omega), HZ.out.2]
    have := Nat.two_pow_add_eq_or_of_lt (i := 32) (b := l0) (by omega) m0
    rw [Nat.mul_comm m0, show (4294967296 : Nat) = 2 ^ 32 from rfl, ← this]
  have e30 : (H3 : Int) = ((x * y / 18446744073709551616 : Nat) : Int) := by rw [HZ.out.1]
  have HM := Lib.hid (And.intro hm0 (And.intro c1 (And.intro c4 c5)))
  clear hxl hxh hyl hyh hL hO hT hH hl1 hl0 ho1 ho0 ht1 ht0 hS hM hm1 hm0 hH1 hH2 hH3 hZ b1 b2 b3 b4 bL bO bT bH c1 c2 c3 c4 c5 HM
  have E30 := Lib.hid e30
  clear e30
  go_enter Tryz.func102, Tryz.ntmps102
  go_upto_region 4 with fail
  go_quiet (fail)
  go_upto_region 5 with fail
  go_quiet (fail)
  go_upto_region 6 with fail
  go_quiet (fail)
  go_upto_region 7 with fail
  go_quiet (fail)
  go_upto_region 8 with fail
  go_region
  go_wp2
  refine bodyPost_ret (v := .agg #[.int .u64 (H3 : Int), .int .u64 ((x * y % 18446744073709551616 : Nat) : Int)]) (by simp [results, Tryz.results102, go_sem]) rfl ⟨by rw [E30.out], ?_⟩
  exact (((bthen ((Below.refl _ w).alloc (Nat.le_refl _) _) (drewN_below _ _)).setCell (p := ⟨w.heap.size, 0, none⟩) (Nat.le_refl _) _).setCell (p := ⟨w.heap.size, 1, none⟩) (Nat.le_refl _) _)
set_option maxHeartbeats 800000 in
theorem l01Small_any (z : Nat) (w : World) : Calls Tryz.prog 101 #[.agg #[.int .u64 ((z / 18446744073709551616 : Nat) : Int), .int .u64 ((z % 18446744073709551616 : Nat) : Int)]] w fun e w' => e = .returned (if z ≤ 1000000000000000000 then .tuple #[.int .i64 (z : Int), .bool true] else .tuple #[.int .i64 0, .bool false]) ∧ Below w.heap.size w w' := by
  obtain ⟨h, hh⟩ : ∃ h, z / 18446744073709551616 = h := ⟨_, rfl⟩
  obtain ⟨l, hl⟩ : ∃ l, z % 18446744073709551616 = l := ⟨_, rfl⟩
  rw [hh, hl]
  by_cases h0 : 0 < h
  · rw [if_neg (show ¬ z ≤ 1000000000000000000 by omega)]
    have h0' : (0 : Int) < (h : Int) := by omega
    clear hh hl
    go_enter Tryz.func101, Tryz.ntmps101
    go_wp2_with fail
    go_ret2
    exact ⟨rfl, (Below.refl _ w).alloc (Nat.le_refl _) _⟩
  · obtain rfl : h = 0 := by omega
    by_cases h1 : 1000000000000000000 < l
    · rw [if_neg (show ¬ z ≤ 1000000000000000000 by omega)]
      have h1' : (1000000000000000000 : Int) < (l : Int) := by omega
      clear hh hl
      go_enter Tryz.func101, Tryz.ntmps101
      go_wp2_with fail
      go_ret2
      exact ⟨rfl, (Below.refl _ w).alloc (Nat.le_refl _) _⟩
    · rw [if_pos (show z ≤ 1000000000000000000 by omega)]
      obtain rfl : l = z := by omega
      have h1' : ¬ (1000000000000000000 : Int) < (l : Int) := by omega
      have hw : IntKind.i64.wrap (l : Int) = (l : Int) := IntWalk.i64_in _ (by omega)
      clear hh hl
      go_enter Tryz.func101, Tryz.ntmps101
      go_wp2_with fail
      go_ret2
      exact ⟨rfl, (Below.refl _ w).alloc (Nat.le_refl _) _⟩
end Go.Proofs.YtaneocedklnajaaGreat
/- The reference's product of fractions. Condition: the fractions are valid ones. -/
namespace Go.Proofs.YtaneocedklnajaaGreat
open Go.RowKit
set_option linter.unusedVariables false

/-- A box of two values. -/
structure C2 (w : World) (b : Nat) (x y : Value) : Prop where
  c0 : w.cell? ⟨b, 0, none⟩ = some x
  c1 : w.cell? ⟨b, 1, none⟩ = some y
  f0 : w.frozen? ⟨b, 0, none⟩ = false
  f1 : w.frozen? ⟨b, 1, none⟩ = false
  lt : b < w.heap.size
theorem C2.of_heap {w : World} {b t : Nat} {x y : Value} (h : w.heap[b]? = some (.cells #[x, y] t (0, 0))) : C2 w b x y :=
  ⟨by simp [World.cell?, h], by simp [World.cell?, h], by simp [World.frozen?, h], by simp [World.frozen?, h], lt_of_heap h⟩
theorem C2.new (w : World) (t : Nat) (x y : Value) : C2 (w.alloc (.cells #[x, y] t (0, 0))) w.heap.size x y := C2.of_heap (heap_at_new w _)
theorem C2.below {w w' : World} {b B : Nat} {x y : Value} (h : C2 w b x y) (hlt : b < B) (hb : Below B w w') : C2 w' b x y :=
  ⟨(hb.cell (p := ⟨b, 0, none⟩) hlt).trans h.c0, (hb.cell (p := ⟨b, 1, none⟩) hlt).trans h.c1, (hb.frozen (p := ⟨b, 0, none⟩) hlt).trans h.f0, (hb.frozen (p := ⟨b, 1, none⟩) hlt).trans h.f1, Nat.lt_of_lt_of_le h.lt hb.size⟩
theorem C2.all {w w' : World} {b : Nat} {x y : Value} (h : C2 w b x y) (hb : Below w.heap.size w w') : C2 w' b x y := h.below h.lt hb
theorem kept3_of {P : Program} {f : Nat} {args : Array Value} {w : World} {V : Value} {b0 b1 b2 : Nat} (h : Calls P f args w fun e w' => e = .returned V ∧ Below w.heap.size w w') (q0 : b0 < w.heap.size) (q1 : b1 < w.heap.size) (q2 : b2 < w.heap.size) :
    Calls P f args w fun e w' => e = .returned V ∧ Hid (Below w.heap.size w w') ∧ (∀ o, w'.cell? ⟨b0, o, none⟩ = w.cell? ⟨b0, o, none⟩) ∧ (∀ o, w'.cell? ⟨b1, o, none⟩ = w.cell? ⟨b1, o, none⟩) ∧ (∀ o, w'.cell? ⟨b2, o, none⟩ = w.cell? ⟨b2, o, none⟩) ∧ (∀ o, w'.frozen? ⟨b2, o, none⟩ = w.frozen? ⟨b2, o, none⟩) ∧ b0 < w'.heap.size ∧ b1 < w'.heap.size ∧ b2 < w'.heap.size := by
  refine h.mono ?_
  rintro e w' ⟨rfl, hb⟩
  exact ⟨rfl, Lib.hid hb, fun o => hb.cell (p := ⟨b0, o, none⟩) q0, fun o => hb.cell (p := ⟨b1, o, none⟩) q1, fun o => hb.cell (p := ⟨b2, o, none⟩) q2, fun o => hb.frozen (p := ⟨b2, o, none⟩) q2, Nat.lt_of_lt_of_le q0 hb.size, Nat.lt_of_lt_of_le q1 hb.size, Nat.lt_of_lt_of_le q2 hb.size⟩
theorem fit_mul (a b : Rat) (h1 : (a * b).num = a.num * b.num) (h2 : (a * b).den = a.den * b.den) : fitR (a * b) = (decide (a.num.natAbs * b.num.natAbs ≤ 1000000000000000000) && decide (a.den * b.den ≤ 1000000000000000000)) := by
  unfold fitR
  rw [h1, h2, Int.natAbs_mul]
theorem mk_small {p : Int} {q : Nat} (hq : 0 < q) (h1 : p.natAbs ≤ 1000000000000000000) (h2 : q ≤ 1000000000000000000) : (mkRat p q).num.natAbs ≤ 1000000000000000000 ∧ (mkRat p q).den ≤ 1000000000000000000 := by
  rw [mk_abs (Nat.ne_of_gt hq), mk_den (Nat.ne_of_gt hq)]
  exact ⟨Nat.le_trans (Nat.div_le_self _ _) h1, Nat.le_trans (Nat.div_le_self _ _) h2⟩
theorem wide_pair (x y : Nat) (hx : x < 9223372036854775808) (hy : y < 9223372036854775808) : ∃ (hi lo n : Int) (ok : Bool), (∀ w, Calls Tryz.prog 102 #[.int .i64 (x : Nat), .int .i64 (y : Nat)] w fun e w' => e = .returned (.agg #[.int .u64 hi, .int .u64 lo]) ∧ Below w.heap.size w w') ∧
    (∀ w, Calls Tryz.prog 101 #[.agg #[.int .u64 hi, .int .u64 lo]] w fun e w' => e = .returned (.tuple #[.int .i64 n, .bool ok]) ∧ Below w.heap.size w w') ∧ ok = decide (x * y ≤ 1000000000000000000) ∧ (ok = true → n = ((x * y : Nat) : Int)) := by
  by_cases h : x * y ≤ 1000000000000000000
  · refine ⟨_, _, ((x * y : Nat) : Int), true, fun w => l01Times_any x y w hx hy, fun w => ?_, by simp [h], fun _ => rfl⟩
    have := l01Small_any (x * y) w
    rw [if_pos h] at this
    exact this
  · refine ⟨_, _, 0, false, fun w => l01Times_any x y w hx hy, fun w => ?_, by simp [h], fun e => by cases e⟩
    have := l01Small_any (x * y) w
    rw [if_neg h] at this
    exact this
set_option maxRecDepth 20000 in
set_option maxHeartbeats 3200000 in
theorem l01FMul_any (p q : Int) (b c : Nat) (w : World) (hp : p.natAbs ≤ 1000000000000000000) (hq : q.natAbs ≤ 1000000000000000000) (hb : 0 < b) (hb2 : b ≤ 1000000000000000000) (hc : 0 < c) (hc2 : c ≤ 1000000000000000000) (hg1 : p.natAbs.gcd b = 1) (hg2 : q.natAbs.gcd c = 1) :
    Calls Tryz.prog 66 #[.agg #[.int .i64 p, .int .i64 (b : Nat)], .agg #[.int .i64 q, .int .i64 (c : Nat)]] w fun e w' => e = .returned (fracV (mkRat p b * mkRat q c)) ∧ Below w.heap.size w w' := by
  obtain ⟨r1, r2⟩ := fmul hb hc hg1 hg2
  have e : mkRat p b * mkRat q c = mkRat p c * mkRat q b := by rw [Rat.mkRat_mul_mkRat, Rat.mkRat_mul_mkRat, Nat.mul_comm b c]
  rw [e] at r1 r2 ⊢
  have hfit := fit_mul _ _ r1 r2
  obtain ⟨s1, s2⟩ := mk_small hc hp hc2
  obtain ⟨s3, s4⟩ := mk_small hb hq hb2
  have HQ1 := Lib.hid (fun (w : World) => l01FMake_any p c w (by omega) (by omega) (by omega) hc)
  have HQ2 := Lib.hid (fun (w : World) => l01FMake_any q b w (by omega) (by omega) (by omega) hb)
  have hv : fracV (mkRat p c * mkRat q b) = if (mkRat p c).num.natAbs * (mkRat q b).num.natAbs ≤ 1000000000000000000 then (if (mkRat p c).den * (mkRat q b).den ≤ 1000000000000000000 then .tuple #[.agg #[.int .i64 ((mkRat p c).num * (mkRat q b).num), .int .i64 (((mkRat p c).den * (mkRat q b).den : Nat) : Int)], .bool true] else .tuple #[.agg #[.int .i64 0, .int .i64 0], .bool false]) else .tuple #[.agg #[.int .i64 0, .int .i64 0], .bool false] := by
    unfold fracV
    rw [hfit, r1, r2]
    by_cases k1 : (mkRat p c).num.natAbs * (mkRat q b).num.natAbs ≤ 1000000000000000000 <;> by_cases k2 : (mkRat p c).den * (mkRat q b).den ≤ 1000000000000000000 <;> simp [k1, k2]
  rw [hv]
  clear hv hfit r1 r2 e hg1 hg2
  obtain ⟨u, hu⟩ : ∃ u, (mkRat p c).num = u := ⟨_, rfl⟩
  obtain ⟨v, hv⟩ : ∃ v, (mkRat q b).num = v := ⟨_, rfl⟩
  obtain ⟨d1, hd1⟩ : ∃ d, (mkRat p c).den = d := ⟨_, rfl⟩
  obtain ⟨d2, hd2⟩ : ∃ d, (mkRat q b).den = d := ⟨_, rfl⟩
  rw [hu, hd1] at HQ1
  rw [hv, hd2] at HQ2
  rw [hu, hv, hd1, hd2]
  rw [hu] at s1
  rw [hv] at s3
  rw [hd1] at s2
  rw [hd2] at s4
  clear hu hv hd1 hd2
  have hwu : IntKind.i64.wrap (-u) = -u := IntWalk.i64_in _ (by omega)
  have hwv : IntKind.i64.wrap (-v) = -v := IntWalk.i64_in _ (by omega)
  obtain ⟨U, hU⟩ : ∃ U, u.natAbs = U := ⟨_, rfl⟩
  obtain ⟨V, hV⟩ : ∃ V, v.natAbs = V := ⟨_, rfl⟩
  have HM1 := Lib.hid (fun (w : World) => l00Max_abs u w (by omega) (by omega))
  have HM2 := Lib.hid (fun (w : World) => l00Max_abs v w (by omega) (by omega))
  have HUV := Lib.hid (mul_sgn (p := u) (q := v))
  rw [hU] at HM1
  rw [hV] at HM2
  rw [hU, hV] at HUV ⊢
  obtain ⟨hi1, lo1, n1, ok1, x1, x2, x3, x4⟩ := wide_pair U V (by omega) (by omega)
  obtain ⟨hi2, lo2, n2, ok2, x5, x6, x7, x8⟩ := wide_pair d1 d2 (by omega) (by omega)
  have HX := Lib.hid (And.intro x1 (And.intro x2 (And.intro x5 x6)))
  have HK := Lib.hid (And.intro x3 (And.intro x4 (And.intro x7 x8)))
  clear x1 x2 x3 x4 x5 x6 x7 x8 hU hV
  obtain ⟨Vf, hVf⟩ : ∃ Vf, (if U * V ≤ 1000000000000000000 then (if d1 * d2 ≤ 1000000000000000000 then Value.tuple #[.agg #[.int .i64 (u * v), .int .i64 ((d1 * d2 : Nat) : Int)], .bool true] else .tuple #[.agg #[.int .i64 0, .int .i64 0], .bool false]) else .tuple #[.agg #[.int .i64 0, .int .i64 0], .bool false]) = Vf := ⟨_, rfl⟩
  rw [hVf]
  have HVf := Lib.hid hVf
  clear hVf
  go_enter Tryz.func66, Tryz.ntmps66
  go_wp2_with fail
  obtain ⟨t0, t1, t2⟩ := three_boxes w (.cells #[.int .i64 p, .int .i64 (b : Nat)] 40) (.cells #[.int .i64 q, .int .i64 (c : Nat)] 40) (.cells #[.int .i64 0, .int .i64 0] 40)
  have HA0 : Below w.heap.size w (((w.alloc (.cells #[.int .i64 p, .int .i64 (b : Nat)] 40)).alloc (.cells #[.int .i64 q, .int .i64 (c : Nat)] 40)).alloc (.cells #[.int .i64 0, .int .i64 0] 40)) := (((Below.refl _ w).alloc (Nat.le_refl _) _).alloc (by simp) _).alloc (by simp only [alloc_size]; omega) _
  obtain ⟨wS, hwS⟩ : ∃ w', (((w.alloc (.cells #[.int .i64 p, .int .i64 (b : Nat)] 40)).alloc (.cells #[.int .i64 q, .int .i64 (c : Nat)] 40)).alloc (.cells #[.int .i64 0, .int .i64 0] 40)) = w' := ⟨_, rfl⟩
  rw [hwS] at t0 t1 t2 HA0 ⊢
  clear hwS
  refine (HQ1.out _).mono ?_
  rintro e w1 ⟨rfl, hb1⟩
  have H1 := Lib.hid (And.intro ((C2.of_heap t0).all hb1) (And.intro ((C2.of_heap t1).all hb1) (And.intro ((C2.of_heap t2).all hb1) (bthen HA0 hb1))))
  clear t0 t1 t2 HA0 hb1
  obtain ⟨y0, y1, _, _, _⟩ := H1.out.1
  obtain ⟨y2, y3, _, _, _⟩ := H1.out.2.1
  go_wp2_with fail
  have hb6 : Below w1.heap.size w1 (w1.alloc (.cells #[.int .i64 u, .int .i64 (d1 : Nat)] 40)) := (Below.refl _ w1).alloc (Nat.le_refl _) _
  have hn6 := C2.new w1 40 (.int .i64 u) (.int .i64 (d1 : Nat))
  obtain ⟨w2, hw2⟩ : ∃ w', w1.alloc (.cells #[.int .i64 u, .int .i64 (d1 : Nat)] 40) = w' := ⟨_, rfl⟩
  rw [hw2] at hb6 hn6 ⊢
  clear hw2 y0 y1 y2 y3
  refine (HQ2.out _).mono ?_
  rintro e w3 ⟨rfl, hb3⟩
  have H3 := Lib.hid (And.intro (hn6.all hb3) (And.intro (H1.out.2.2.1.all (bthen hb6 hb3)) (bthen H1.out.2.2.2 (bthen hb6 hb3))))
  have hlt61 : w1.heap.size < w3.heap.size := H3.out.1.lt
  have hlt5 : w.heap.size + 1 + 1 < w1.heap.size := H1.out.2.2.1.lt
  obtain ⟨b6, hb6e⟩ : ∃ b6, w1.heap.size = b6 := ⟨_, rfl⟩
  rw [hb6e] at H3 hlt61 hlt5 ⊢
  clear hb6e hb6 hn6 hb3 H1
  go_wp2_with fail
  have hb7 : Below w3.heap.size w3 (w3.alloc (.cells #[.int .i64 v, .int .i64 (d2 : Nat)] 40)) := (Below.refl _ w3).alloc (Nat.le_refl _) _
  have hn7 := C2.new w3 40 (.int .i64 v) (.int .i64 (d2 : Nat))
  obtain ⟨w4, hw4⟩ : ∃ w', w3.alloc (.cells #[.int .i64 v, .int .i64 (d2 : Nat)] 40) = w' := ⟨_, rfl⟩
  have H4 := Lib.hid (And.intro (H3.out.1.all hb7) (And.intro hn7 (And.intro (H3.out.2.1.all hb7) (bthen H3.out.2.2 hb7))))
  rw [hw4] at H4 ⊢
  obtain ⟨b7, hb7e⟩ : ∃ b7, w3.heap.size = b7 := ⟨_, rfl⟩
  rw [hb7e] at H4 hlt61 ⊢
  clear hw4 hb7 hn7 H3 hb7e
  obtain ⟨k0, k1, _, _, k4⟩ := H4.out.1
  obtain ⟨k5, k6, _, _, k9⟩ := H4.out.2.1
  clear HQ1 HQ2
  go_region_held3 (fun w' => w'.cell? ⟨b6, 0, none⟩ = some (.int .i64 u) ∧ w'.cell? ⟨b7, 0, none⟩ = some (.int .i64 v) ∧ b6 < w'.heap.size ∧ b7 < w'.heap.size)
    ((repeat' refine And.intro ?_ ?_) <;> first | (go_keep; done) | (go_keep; omega))
    (first
      | (go_at_call_of 69 (Value.int .i64 u); refine (HM1.out _).mono ?_; rintro e w5 ⟨rfl, rfl⟩)
      | (go_at_call_of 69 (Value.int .i64 v); refine (HM2.out _).mono ?_; rintro e w5 ⟨rfl, rfl⟩)
      | (go_at_call 102; refine (kept3_of (b0 := b6) (b1 := b7) (b2 := b7) (HX.out.1 _) ?_ ?_ ?_).mono ?_; (first | omega | (simp [*]; done) | (simp [*]; omega)); (first | omega | (simp [*]; done) | (simp [*]; omega)); (first | omega | (simp [*]; done) | (simp [*]; omega)); rintro e w6 ⟨rfl, hY1, p0, p1, p2, p3, p4, p5, p6⟩)
      | (go_at_call 101; refine (kept3_of (b0 := b6) (b1 := b7) (b2 := b7) (HX.out.2.1 _) ?_ ?_ ?_).mono ?_; (first | omega | (simp [*]; done) | (simp [*]; omega)); (first | omega | (simp [*]; done) | (simp [*]; omega)); (first | omega | (simp [*]; done) | (simp [*]; omega)); rintro e w7 ⟨rfl, hY2, s0, s1, s2, s3, s4, s5, s6⟩))
  go_wp2_with fail
  have hb7' : Below w4.heap.size w4 w7 := bthen (bthen (Below.refl _ w4).drew hY1.out) hY2.out
  have H7 := Lib.hid (And.intro (H4.out.1.all hb7') (And.intro (H4.out.2.1.all hb7') (And.intro (H4.out.2.2.1.all hb7') (bthen H4.out.2.2.2 hb7'))))
  clear hb7' hY1 hY2 p0 p1 p2 p3 p4 p5 p6 s0 s1 s2 s3 s4 s5 s6 k0 k1 k4 k5 k6 k9 H4
  refine (HX.out.2.2.1 _).mono ?_
  rintro e w8 ⟨rfl, hb8⟩
  have HB8 := Lib.hid hb8
  clear hb8
  go_wp2_with fail
  refine (HX.out.2.2.2 _).mono ?_
  rintro e w9 ⟨rfl, hb9⟩
  have hb79 := bthen HB8.out hb9
  have H9 := Lib.hid (And.intro (H7.out.1.all hb79) (And.intro (H7.out.2.1.all hb79) (And.intro (H7.out.2.2.1.all hb79) (bthen H7.out.2.2.2 hb79))))
  clear H7 hb9 hb79 HB8
  obtain ⟨k0, k1, _, _, k4⟩ := H9.out.1
  obtain ⟨k5, k6, _, _, k9⟩ := H9.out.2.1
  obtain ⟨g0, g1, g2, g3, g4⟩ := H9.out.2.2.1
  have hlast : ∀ a0 a1, Below w.heap.size w ((w9.setCell ⟨w.heap.size + 1 + 1, 0, none⟩ a0).setCell ⟨w.heap.size + 1 + 1, 1, none⟩ a1) := fun a0 a1 => ((H9.out.2.2.2.setCell (p := ⟨w.heap.size + 1 + 1, 0, none⟩) (by show w.heap.size ≤ w.heap.size + 1 + 1; omega) _).setCell (p := ⟨w.heap.size + 1 + 1, 1, none⟩) (by show w.heap.size ≤ w.heap.size + 1 + 1; omega) _)
  have HL := Lib.hid hlast
  clear hlast
  cases ok1 with
  | false =>
    have hno : ¬ U * V ≤ 1000000000000000000 := by have := HK.out.1; simpa using this.symm
    go_wp2_with fail
    refine bodyPost_ret (v := .tuple #[.agg #[.int .i64 0, .int .i64 0], .bool false]) (by simp [results, Tryz.results66, go_sem, *]) rfl ⟨by rw [← HVf.out, if_neg hno], HL.out _ _⟩
  | true =>
    have hyes : U * V ≤ 1000000000000000000 := by have := HK.out.1; simpa using this.symm
    obtain rfl : n1 = ((U * V : Nat) : Int) := HK.out.2.1 rfl
    obtain ⟨P, hP⟩ : ∃ P, U * V = P := ⟨_, rfl⟩
    cases ok2 with
    | false =>
      have hno : ¬ d1 * d2 ≤ 1000000000000000000 := by have := HK.out.2.2.1; simpa using this.symm
      have HN := Lib.hid (And.intro hyes hno)
      clear hyes hno
      rw [hP]
      go_wp2_with fail
      refine bodyPost_ret (v := .tuple #[.agg #[.int .i64 0, .int .i64 0], .bool false]) (by simp [results, Tryz.results66, go_sem, *]) rfl ⟨by rw [← HVf.out, if_pos HN.out.1, if_neg HN.out.2], HL.out _ _⟩
    | true =>
      have hyes2 : d1 * d2 ≤ 1000000000000000000 := by have := HK.out.2.2.1; simpa using this.symm
      obtain rfl : n2 = ((d1 * d2 : Nat) : Int) := HK.out.2.2.2 rfl
      have HN := Lib.hid (And.intro hyes hyes2)
      have HE := Lib.hid hP
      have hPb : P ≤ 1000000000000000000 := by omega
      rw [hP] at HUV ⊢
      obtain ⟨D, hD⟩ : ∃ D, d1 * d2 = D := ⟨_, rfl⟩
      have HD := Lib.hid hD
      rw [hD]
      clear hyes hyes2 hP hD
      have hwP : IntKind.i64.wrap (-(P : Int)) = -(P : Int) := IntWalk.i64_in _ (by omega)
      by_cases hu0 : u < 0
      · by_cases hv0 : v < 0
        · have HV := Lib.hid (show u * v = (P : Int) by rw [HUV.out, decide_eq_true hu0, decide_eq_true hv0]; rfl)
          have hd1 := decide_eq_true hu0
          have hd2 := decide_eq_true hv0
          go_upto_if 61 with fail
          go_wp2_with fail
          refine bodyPost_ret (v := .tuple #[.agg #[.int .i64 (P : Int), .int .i64 (D : Int)], .bool true]) (by simp [results, Tryz.results66, go_sem, *]) rfl ⟨by rw [← HVf.out, if_pos HN.out.1, if_pos HN.out.2, HV.out, HD.out], HL.out _ _⟩
        · have HV := Lib.hid (show u * v = (-(P : Int)) by rw [HUV.out, decide_eq_true hu0, decide_eq_false hv0]; rfl)
          have hd1 := decide_eq_true hu0
          have hd2 := decide_eq_false hv0
          go_upto_if 61 with fail
          go_wp2_with fail
          refine bodyPost_ret (v := .tuple #[.agg #[.int .i64 (-(P : Int)), .int .i64 (D : Int)], .bool true]) (by simp [results, Tryz.results66, go_sem, *]) rfl ⟨by rw [← HVf.out, if_pos HN.out.1, if_pos HN.out.2, HV.out, HD.out], HL.out _ _⟩
      · by_cases hv0 : v < 0
        · have HV := Lib.hid (show u * v = (-(P : Int)) by rw [HUV.out, decide_eq_false hu0, decide_eq_true hv0]; rfl)
          have hd1 := decide_eq_false hu0
          have hd2 := decide_eq_true hv0
          go_upto_if 61 with fail
          go_wp2_with fail
          refine bodyPost_ret (v := .tuple #[.agg #[.int .i64 (-(P : Int)), .int .i64 (D : Int)], .bool true]) (by simp [results, Tryz.results66, go_sem, *]) rfl ⟨by rw [← HVf.out, if_pos HN.out.1, if_pos HN.out.2, HV.out, HD.out], HL.out _ _⟩
        · have HV := Lib.hid (show u * v = (P : Int) by rw [HUV.out, decide_eq_false hu0, decide_eq_false hv0]; rfl)
          have hd1 := decide_eq_false hu0
          have hd2 := decide_eq_false hv0
          go_upto_if 61 with fail
          go_wp2_with fail
          refine bodyPost_ret (v := .tuple #[.agg #[.int .i64 (P : Int), .int .i64 (D : Int)], .bool true]) (by simp [results, Tryz.results66, go_sem, *]) rfl ⟨by rw [← HVf.out, if_pos HN.out.1, if_pos HN.out.2, HV.out, HD.out], HL.out _ _⟩
end Go.Proofs.YtaneocedklnajaaGreat
/- The reference's wide numbers: sum, difference, order. Condition: the numbers stay below 2 to the power of 127. -/
namespace Go.Proofs.YtaneocedklnajaaGreat
open Go.RowKit
set_option linter.unusedVariables false

/-- A wide number in two words. -/
def wv (z : Nat) : Value := .agg #[.int .u64 ((z / 18446744073709551616 : Nat) : Int), .int .u64 ((z % 18446744073709551616 : Nat) : Int)]
theorem wv_of {z h l : Nat} (hl : l < 18446744073709551616) (e : z = h * 18446744073709551616 + l) : wv z = .agg #[.int .u64 (h : Int), .int .u64 (l : Int)] := by
  unfold wv
  rw [show z / 18446744073709551616 = h by omega, show z % 18446744073709551616 = l by omega]
theorem below_4 (w : World) (o1 o2 o3 o4 : Obj) : Below w.heap.size w ((((w.alloc o1).alloc o2).alloc o3).alloc o4) := ((((Below.refl _ w).alloc (Nat.le_refl _) _).alloc (by simp) _).alloc (by simp only [alloc_size]; omega) _).alloc (by simp only [alloc_size]; omega) _
set_option maxHeartbeats 800000 in
theorem l01Plus_any (x y : Nat) (w : World) (hx : x < 2 ^ 126) (hy : y < 2 ^ 126) : Calls Tryz.prog 131 #[wv x, wv y] w fun e w' => e = .returned (wv (x + y)) ∧ Below w.heap.size w w' := by
  unfold wv
  obtain ⟨a, ha⟩ : ∃ a, x / 18446744073709551616 = a := ⟨_, rfl⟩
  obtain ⟨b, hb⟩ : ∃ b, x % 18446744073709551616 = b := ⟨_, rfl⟩
  obtain ⟨c, hc⟩ : ∃ c, y / 18446744073709551616 = c := ⟨_, rfl⟩
  obtain ⟨d, hd⟩ : ∃ d, y % 18446744073709551616 = d := ⟨_, rfl⟩
  obtain ⟨h, hh⟩ : ∃ h, (x + y) / 18446744073709551616 = h := ⟨_, rfl⟩
  obtain ⟨l, hl⟩ : ∃ l, (x + y) % 18446744073709551616 = l := ⟨_, rfl⟩
  rw [ha, hb, hc, hd, hh, hl]
  have hs : IntKind.u64.wrap ((a : Int) + (c : Int)) = (a : Int) + (c : Int) := u64_in (by omega) (by omega)
  have ht : IntKind.u64.wrap ((b : Int) + (d : Int)) = (l : Int) := by show ((b : Int) + (d : Int)) % 18446744073709551616 = _; omega
  by_cases hlt : (l : Int) < (b : Int)
  · have hu : IntKind.u64.wrap ((a : Int) + (c : Int) + 1) = (h : Int) := by rw [u64_in (by omega) (by omega)]; omega
    clear ha hb hc hd hh hl hx hy
    go_enter Tryz.func131, Tryz.ntmps131
    go_wp2_with fail
    refine bodyPost_ret (v := .agg #[.int .u64 (h : Int), .int .u64 (l : Int)]) (by simp [results, Tryz.results131, go_sem, *]) rfl ⟨rfl, ?_⟩
    exact below_4 w _ _ _ _
  · have hu : (a : Int) + (c : Int) = (h : Int) := by omega
    have hwh : IntKind.u64.wrap (h : Int) = (h : Int) := u64_in (by omega) (by omega)
    clear ha hb hc hd hh hl hx hy
    go_enter Tryz.func131, Tryz.ntmps131
    go_wp2_with fail
    refine bodyPost_ret (v := .agg #[.int .u64 (h : Int), .int .u64 (l : Int)]) (by simp [results, Tryz.results131, go_sem, *]) rfl ⟨rfl, ?_⟩
    exact below_4 w _ _ _ _
set_option maxHeartbeats 800000 in
theorem l01Minus_any (x y : Nat) (w : World) (hx : x < 2 ^ 127) (hy : y ≤ x) : Calls Tryz.prog 132 #[wv x, wv y] w fun e w' => e = .returned (wv (x - y)) ∧ Below w.heap.size w w' := by
  unfold wv
  obtain ⟨a, ha⟩ : ∃ a, x / 18446744073709551616 = a := ⟨_, rfl⟩
  obtain ⟨b, hb⟩ : ∃ b, x % 18446744073709551616 = b := ⟨_, rfl⟩
  obtain ⟨c, hc⟩ : ∃ c, y / 18446744073709551616 = c := ⟨_, rfl⟩
  obtain ⟨d, hd⟩ : ∃ d, y % 18446744073709551616 = d := ⟨_, rfl⟩
  obtain ⟨h, hh⟩ : ∃ h, (x - y) / 18446744073709551616 = h := ⟨_, rfl⟩
  obtain ⟨l, hl⟩ : ∃ l, (x - y) % 18446744073709551616 = l := ⟨_, rfl⟩
  rw [ha, hb, hc, hd, hh, hl]
  have hs : IntKind.u64.wrap ((a : Int) - (c : Int)) = (a : Int) - (c : Int) := u64_in (by omega) (by omega)
  have ht : IntKind.u64.wrap ((b : Int) - (d : Int)) = (l : Int) := by show ((b : Int) - (d : Int)) % 18446744073709551616 = _; omega
  by_cases hlt : (b : Int) < (d : Int)
  · have hu : IntKind.u64.wrap ((a : Int) - (c : Int) - 1) = (h : Int) := by rw [u64_in (by omega) (by omega)]; omega
    clear ha hb hc hd hh hl hx hy
    go_enter Tryz.func132, Tryz.ntmps132
    go_wp2_with fail
    refine bodyPost_ret (v := .agg #[.int .u64 (h : Int), .int .u64 (l : Int)]) (by simp [results, Tryz.results132, go_sem, *]) rfl ⟨rfl, ?_⟩
    exact below_4 w _ _ _ _
  · have hu : (a : Int) - (c : Int) = (h : Int) := by omega
    have hwh : IntKind.u64.wrap (h : Int) = (h : Int) := u64_in (by omega) (by omega)
    clear ha hb hc hd hh hl hx hy
    go_enter Tryz.func132, Tryz.ntmps132
    go_wp2_with fail
    refine bodyPost_ret (v := .agg #[.int .u64 (h : Int), .int .u64 (l : Int)]) (by simp [results, Tryz.results132, go_sem, *]) rfl ⟨rfl, ?_⟩
    exact below_4 w _ _ _ _
set_option maxHeartbeats 800000 in
theorem l01Less_any (x y : Nat) (w : World) : Calls Tryz.prog 127 #[wv x, wv y] w fun e w' => e = .returned (.bool (decide (x < y))) ∧ Below w.heap.size w w' := by
  unfold wv
  obtain ⟨a, ha⟩ : ∃ a, x / 18446744073709551616 = a := ⟨_, rfl⟩
  obtain ⟨b, hb⟩ : ∃ b, x % 18446744073709551616 = b := ⟨_, rfl⟩
  obtain ⟨c, hc⟩ : ∃ c, y / 18446744073709551616 = c := ⟨_, rfl⟩
  obtain ⟨d, hd⟩ : ∃ d, y % 18446744073709551616 = d := ⟨_, rfl⟩
  rw [ha, hb, hc, hd]
  by_cases h1 : (a : Int) < (c : Int)
  · rw [decide_eq_true (show x < y by omega)]
    clear ha hb hc hd
    go_enter Tryz.func127, Tryz.ntmps127
    go_wp2_with fail
    go_ret
    exact ⟨rfl, ((Below.refl _ w).alloc (Nat.le_refl _) _).alloc (by simp) _⟩
  · by_cases h2 : a = c
    · subst h2
      have h2b : ((a : Int) == (a : Int)) = true := by simp
      by_cases h3 : (b : Int) < (d : Int)
      · rw [decide_eq_true (show x < y by omega)]
        clear ha hb hc hd
        go_enter Tryz.func127, Tryz.ntmps127
        go_wp2_with fail
        go_ret
        exact ⟨rfl, ((Below.refl _ w).alloc (Nat.le_refl _) _).alloc (by simp) _⟩
      · rw [decide_eq_false (show ¬ x < y by omega)]
        clear ha hb hc hd
        go_enter Tryz.func127, Tryz.ntmps127
        go_wp2_with fail
        go_ret
        exact ⟨rfl, ((Below.refl _ w).alloc (Nat.le_refl _) _).alloc (by simp) _⟩
    · rw [decide_eq_false (show ¬ x < y by omega)]
      have h2b : ((a : Int) == (c : Int)) = false := by rw [beq_eq_false_iff_ne]; omega
      have h2i : ¬ (a : Int) = (c : Int) := by omega
      clear ha hb hc hd
      go_enter Tryz.func127, Tryz.ntmps127
      go_wp2_with fail
      go_ret
      exact ⟨rfl, ((Below.refl _ w).alloc (Nat.le_refl _) _).alloc (by simp) _⟩
end Go.Proofs.YtaneocedklnajaaGreat
/- The reference's division of a wide number, bit by bit. Condition: the divisor is below 2 to the power of 62. -/
namespace Go.Proofs.YtaneocedklnajaaGreat
open Go.RowKit
set_option linter.unusedVariables false

theorem bit_low (x n : Nat) (h : n < 64) : x % 18446744073709551616 / 2 ^ n % 2 = x / 2 ^ n % 2 := by
  have e := Nat.testBit_mod_two_pow x 64 n
  rw [decide_eq_true h, Bool.true_and, Nat.testBit_eq_decide_div_mod_eq, Nat.testBit_eq_decide_div_mod_eq] at e
  have e2 := decide_eq_decide.1 e
  rw [show (18446744073709551616 : Nat) = 2 ^ 64 from rfl]
  omega
theorem bit_high (x n : Nat) (h : 64 ≤ n) : x / 18446744073709551616 / 2 ^ (n - 64) = x / 2 ^ n := by
  rw [Nat.div_div_eq_div_mul, show (18446744073709551616 : Nat) = 2 ^ 64 from rfl, ← Nat.pow_add]
  congr 2
  omega
theorem half_step (x n : Nat) : x / 2 ^ n = 2 * (x / 2 ^ (n + 1)) + x / 2 ^ n % 2 := by
  rw [Nat.pow_succ, ← Nat.div_div_eq_div_mul]
  omega
theorem div_step (y d b : Nat) (hd : 0 < d) (hb : b < 2) : (2 * y + b) / d = 2 * (y / d) + (if d ≤ 2 * (y % d) + b then 1 else 0) ∧ (2 * y + b) % d = 2 * (y % d) + b - (if d ≤ 2 * (y % d) + b then d else 0) := by
  have h1 := Nat.div_add_mod y d
  have h2 := Nat.mod_lt y hd
  obtain ⟨q, hq⟩ : ∃ q, y / d = q := ⟨_, rfl⟩
  obtain ⟨r, hr⟩ : ∃ r, y % d = r := ⟨_, rfl⟩
  rw [hq, hr] at h1 ⊢
  rw [hr] at h2
  have e : 2 * y + b = d * (2 * q) + (2 * r + b) := by rw [← h1]; grind
  rw [e]
  by_cases h : d ≤ 2 * r + b
  · rw [if_pos h, if_pos h]
    have e2 : d * (2 * q) + (2 * r + b) = (2 * r + b - d) + d * (2 * q + 1) := by rw [Nat.mul_add, Nat.mul_one]; omega
    rw [e2, Nat.add_mul_div_left _ _ hd, Nat.add_mul_mod_self_left, Nat.div_eq_of_lt (by omega), Nat.mod_eq_of_lt (by omega)]
    omega
  · rw [if_neg h, if_neg h]
    have e2 : d * (2 * q) + (2 * r + b) = (2 * r + b) + d * (2 * q) := by omega
    rw [e2, Nat.add_mul_div_left _ _ hd, Nat.add_mul_mod_self_left, Nat.div_eq_of_lt (by omega), Nat.mod_eq_of_lt (by omega)]
    omega
/-- Twice a wide number. -/
theorem dbl_wide (q : Nat) (hq : q < 2 ^ 127) : (2 * q) / 18446744073709551616 = (q / 18446744073709551616 * 2) ||| (q % 18446744073709551616 / 9223372036854775808) ∧ (2 * q) % 18446744073709551616 = (q % 18446744073709551616 * 2) % 18446744073709551616 := by
  have h1 : q % 18446744073709551616 / 9223372036854775808 < 2 := by omega
  have e := Nat.two_pow_add_eq_or_of_lt (i := 1) (b := q % 18446744073709551616 / 9223372036854775808) (by omega) (q / 18446744073709551616)
  constructor
  · rw [Nat.mul_comm (q / 18446744073709551616) 2, show (2 : Nat) * (q / 18446744073709551616) = 2 ^ 1 * (q / 18446744073709551616) from rfl, ← e]
    omega
  · omega
theorem or_one (l : Nat) (h : l % 2 = 0) : l ||| 1 = l + 1 := by
  have e := Nat.two_pow_add_eq_or_of_lt (i := 1) (b := 1) (by omega) (l / 2)
  rw [show 2 ^ 1 * (l / 2) = l by omega] at e
  exact e.symm
theorem and_one (a : Nat) (h : a < 18446744073709551616) : bits .and .u64 (a : Int) 1 = ((a % 2 : Nat) : Int) := by
  have := and_u64 a 1 h (by omega)
  rw [Nat.and_one_is_mod] at this
  exact this
theorem C2.set0 {w : World} {b : Nat} {x y : Value} (h : C2 w b x y) (v : Value) : C2 (w.setCell ⟨b, 0, none⟩ v) b v y :=
  ⟨World.cell?_setCell_same _ _ _ h.c0, by rw [World.cell?_setCell_other _ _ _ _ (by simp)]; exact h.c1, by rw [World.frozen?_setCell]; exact h.f0, by rw [World.frozen?_setCell]; exact h.f1, by rw [World.size_setCell]; exact h.lt⟩
theorem C2.set1 {w : World} {b : Nat} {x y : Value} (h : C2 w b x y) (v : Value) : C2 (w.setCell ⟨b, 1, none⟩ v) b x v :=
  ⟨by rw [World.cell?_setCell_other _ _ _ _ (by simp)]; exact h.c0, World.cell?_setCell_same _ _ _ h.c1, by rw [World.frozen?_setCell]; exact h.f0, by rw [World.frozen?_setCell]; exact h.f1, by rw [World.size_setCell]; exact h.lt⟩
theorem C2.other {w : World} {b g o : Nat} {x y : Value} (h : C2 w b x y) (hne : g ≠ b) (v : Value) : C2 (w.setCell ⟨g, o, none⟩ v) b x y := by
  have e : ∀ p, (⟨g, o, none⟩ : Addr) ≠ ⟨b, p, none⟩ := fun p e => hne (by injection e)
  exact ⟨by rw [World.cell?_setCell_other _ _ _ _ (e 0)]; exact h.c0, by rw [World.cell?_setCell_other _ _ _ _ (e 1)]; exact h.c1, by rw [World.frozen?_setCell]; exact h.f0, by rw [World.frozen?_setCell]; exact h.f1, by rw [World.size_setCell]; exact h.lt⟩
/-- All that a round calculates. -/
structure SpR (x d n y z qh ql bt Z2 R qh2 ql2 ql3 : Nat) : Prop where
  hbt : x / 2 ^ n % 2 = bt
  hy : x / 2 ^ n = 2 * y + bt
  hz2 : IntKind.u64.wrap (2 * (z : Int)) = (Z2 : Int)
  hr : IntKind.u64.wrap ((Z2 : Int) + (bt : Int)) = (R : Int)
  hrb : R < 9223372036854775808
  hqh : bits .or .u64 (IntKind.u64.wrap ((qh : Int) * 2)) ((ql : Int) / 9223372036854775808) = (qh2 : Int)
  hql : IntKind.u64.wrap ((ql : Int) * 2) = (ql2 : Int)
  hor : bits .or .u64 (ql2 : Int) 1 = (ql3 : Int)
  hno : R < d → (2 * y + bt) % d = R ∧ (2 * y + bt) / d / 18446744073709551616 = qh2 ∧ (2 * y + bt) / d % 18446744073709551616 = ql2
  hyes : d ≤ R → (2 * y + bt) % d = R - d ∧ (2 * y + bt) / d / 18446744073709551616 = qh2 ∧ (2 * y + bt) / d % 18446744073709551616 = ql3
theorem spR_of {x d n y z qh ql : Nat} (hx : x < 2 ^ 127) (hd : 0 < d) (hd2 : d < 4611686018427387904) (hy : x / 2 ^ (n + 1) = y) (hz : y % d = z) (hqh : y / d / 18446744073709551616 = qh) (hql : y / d % 18446744073709551616 = ql) :
    ∃ bt Z2 R qh2 ql2 ql3, SpR x d n y z qh ql bt Z2 R qh2 ql2 ql3 := by
  have hb : x / 2 ^ n % 2 < 2 := Nat.mod_lt _ (by omega)
  have hst := half_step x n
  rw [hy] at hst
  obtain ⟨bt, hbt⟩ : ∃ v, x / 2 ^ n % 2 = v := ⟨_, rfl⟩
  rw [hbt] at hst hb
  have hyb : y < 2 ^ 126 := by
    have h1 : x / 2 ^ n ≤ x := Nat.div_le_self _ _
    omega
  have hzd : z < d := by rw [← hz]; exact Nat.mod_lt _ hd
  obtain ⟨Y, hY⟩ : ∃ v, y / d = v := ⟨_, rfl⟩
  have hYb : Y < 2 ^ 126 := Nat.lt_of_le_of_lt (by rw [← hY]; exact Nat.div_le_self _ _) hyb
  obtain ⟨e1, e2⟩ := dbl_wide Y (by omega)
  obtain ⟨s1, s2⟩ := div_step y d bt hd hb
  rw [hY] at hqh hql s1
  rw [hqh, hql] at e1
  rw [hql] at e2
  rw [hz] at s1 s2
  refine ⟨bt, 2 * z, 2 * z + bt, 2 * Y / 18446744073709551616, 2 * Y % 18446744073709551616, 2 * Y % 18446744073709551616 + 1, hbt, hst, ?_, ?_, by omega, ?_, ?_, ?_, fun h => ?_, fun h => ?_⟩
  · rw [u64_in (by omega) (by omega)]; omega
  · rw [u64_in (by omega) (by omega)]; omega
  · have hq2 : IntKind.u64.wrap ((qh : Int) * 2) = ((qh * 2 : Nat) : Int) := by rw [u64_in (by omega) (by omega)]; omega
    have hq3 : (ql : Int) / 9223372036854775808 = ((ql / 9223372036854775808 : Nat) : Int) := by omega
    rw [hq2, hq3, or_u64 _ _ (by omega) (by omega), e1]
  · show ((ql : Int) * 2) % 18446744073709551616 = _
    omega
  · have := or_u64 (2 * Y % 18446744073709551616) 1 (by omega) (by omega)
    rw [or_one _ (by omega)] at this
    exact this
  · rw [if_neg (by omega)] at s1 s2
    rw [s1, s2]
    exact ⟨by omega, rfl, rfl⟩
  · rw [if_pos (by omega)] at s1 s2
    rw [s1, s2]
    exact ⟨by omega, by omega, by omega⟩
/-- What the loop keeps. -/
def SpA (w : World) (x q : Nat) (wr : World) : Prop := C2 wr w.heap.size (.int .u64 ((x / 18446744073709551616 : Nat) : Int)) (.int .u64 ((x % 18446744073709551616 : Nat) : Int)) ∧ C2 wr (w.heap.size + 1) (.int .u64 0) (.int .u64 0) ∧ C2 wr (w.heap.size + 1 + 1) (.int .u64 ((q / 18446744073709551616 : Nat) : Int)) (.int .u64 ((q % 18446744073709551616 : Nat) : Int)) ∧ Below w.heap.size w wr
set_option maxRecDepth 20000 in
set_option maxHeartbeats 3200000 in
theorem l01Split_any (x d : Nat) (w : World) (hx : x < 2 ^ 127) (hd : 0 < d) (hd2 : d < 4611686018427387904) : Calls Tryz.prog 133 #[wv x, .int .i64 (d : Nat)] w fun e w' => e = .returned (.tuple #[wv (x / d), .int .i64 ((x % d : Nat) : Int)]) ∧ Below w.heap.size w w' := by
  have hA : SpA w x 0 (((w.alloc (.cells #[.int .u64 ((x / 18446744073709551616 : Nat) : Int), .int .u64 ((x % 18446744073709551616 : Nat) : Int)] 126)).alloc (.cells #[.int .u64 0, .int .u64 0] 126)).alloc (.cells #[.int .u64 0, .int .u64 0] 126)) := by
    obtain ⟨t0, t1, t2⟩ := three_boxes w (.cells #[.int .u64 ((x / 18446744073709551616 : Nat) : Int), .int .u64 ((x % 18446744073709551616 : Nat) : Int)] 126) (.cells #[.int .u64 0, .int .u64 0] 126) (.cells #[.int .u64 0, .int .u64 0] 126)
    exact ⟨C2.of_heap t0, C2.of_heap t1, C2.of_heap t2, (((Below.refl _ w).alloc (Nat.le_refl _) _).alloc (by simp) _).alloc (by simp only [alloc_size]; omega) _⟩
  have HA := Lib.hid hA
  clear hA
  unfold wv
  obtain ⟨xh, hxh⟩ : ∃ v, x / 18446744073709551616 = v := ⟨_, rfl⟩
  obtain ⟨xl, hxl⟩ : ∃ v, x % 18446744073709551616 = v := ⟨_, rfl⟩
  unfold SpA at HA
  rw [hxh, hxl] at HA ⊢
  have hxhb : xh < 9223372036854775808 := by omega
  have hxlb : xl < 18446744073709551616 := by omega
  obtain ⟨p', hp'⟩ : ∃ v, x / d / 18446744073709551616 = v := ⟨_, rfl⟩
  obtain ⟨q', hq'⟩ : ∃ v, x / d % 18446744073709551616 = v := ⟨_, rfl⟩
  obtain ⟨r', hr'⟩ : ∃ v, x % d = v := ⟨_, rfl⟩
  rw [hp', hq', hr']
  have HE := Lib.hid (And.intro hxh (And.intro hxl (And.intro hp' (And.intro hq' (And.intro hr' (And.intro hx hd))))))
  clear hxh hxl hp' hq' hr' hx hd
  go_enter Tryz.func133, Tryz.ntmps133
  go_wp2_with fail
  go_loopw [8, 7] (fun i c wr => ∃ (n y z qh ql : Nat), n ≤ 128 ∧ i = .int .i64 ((n : Int) - 1) ∧ c = .int .u64 (z : Nat) ∧ Hid (x / 2 ^ n = y ∧ y % d = z ∧ y / d / 18446744073709551616 = qh ∧ y / d % 18446744073709551616 = ql ∧ C2 wr w.heap.size (.int .u64 (xh : Int)) (.int .u64 (xl : Int)) ∧ C2 wr (w.heap.size + 1) (.int .u64 0) (.int .u64 0) ∧ C2 wr (w.heap.size + 1 + 1) (.int .u64 (qh : Int)) (.int .u64 (ql : Int)) ∧ Below w.heap.size w wr)) (fun i _ _ => (intOf i + 1).toNat)
  case atStart =>
    have hz : x / 2 ^ 128 = 0 := Nat.div_eq_of_lt (Nat.lt_of_lt_of_le HE.out.2.2.2.2.2.1 (by decide))
    refine ⟨128, 0, 0, 0, 0, Nat.le_refl _, by first | rfl | (simp; done), rfl, Lib.hid ⟨hz, by simp, by simp, by simp, ?_⟩⟩
    simpa using HA.out
  case round =>
    clear HA
    obtain ⟨n, y, z, qh, ql, hn, rfl, rfl, HR⟩ := hrel
    cases n with
    | zero =>
      obtain ⟨u0, u1, u2, u3, u4⟩ := HR.out.2.2.2.2.2.2.1
      obtain ⟨v0, v1, v2, v3, v4⟩ := HR.out.2.2.2.2.2.1
      have hm1 : ((0 : Nat) : Int) - 1 = -1 := rfl
      obtain ⟨e1, e2, e3, e4, _⟩ := HR.out
      have hy : y = x := by rw [← e1]; simp
      subst hy
      have hzz : z = r' := e2.symm.trans HE.out.2.2.2.2.1
      have hqq : qh = p' := e3.symm.trans HE.out.2.2.1
      have hll : ql = q' := e4.symm.trans HE.out.2.2.2.1
      subst hzz hqq hll
      have hzb : z < d := by rw [← e2]; exact Nat.mod_lt _ HE.out.2.2.2.2.2.2
      have hzw : IntKind.i64.wrap (z : Int) = (z : Int) := IntWalk.i64_in _ (by omega)
      clear e1 e2 e3 e4
      rw [hm1]
      go_wp2_with fail
      refine bodyPost_ret (v := .tuple #[.agg #[.int .u64 (qh : Int), .int .u64 (ql : Int)], .int .i64 (z : Int)]) (by simp [results, Tryz.results133, go_sem, *]) rfl ⟨rfl, ?_⟩
      exact (HR.out.2.2.2.2.2.2.2.setCell (p := ⟨w.heap.size + 1, 0, none⟩) (by show w.heap.size ≤ w.heap.size + 1; omega) _).setCell (p := ⟨w.heap.size + 1, 1, none⟩) (by show w.heap.size ≤ w.heap.size + 1; omega) _
    | succ n =>
      rw [show (((n + 1 : Nat) : Int) - 1) = (n : Int) by omega]
      have hn0 : (0 : Int) ≤ (n : Int) := by omega
      obtain ⟨k0, k1, _, _, _⟩ := HR.out.2.2.2.2.1
      obtain ⟨u0, u1, u2, u3, u4⟩ := HR.out.2.2.2.2.2.2.1
      obtain ⟨bt, Z2, R, qh2, ql2, ql3, HS0⟩ := spR_of HE.out.2.2.2.2.2.1 HE.out.2.2.2.2.2.2 hd2 HR.out.1 HR.out.2.1 HR.out.2.2.1 HR.out.2.2.2.1
      have HS := Lib.hid HS0
      obtain ⟨f1, f2, f3, f4, f5, f6, f7, f8, f9, f10⟩ := HS0
      clear f1 f2 f9 f10
      by_cases h64 : n < 64
      · have h64i : ¬ (64 : Int) ≤ (n : Int) := by omega
        have hbit : bits .and .u64 ((xl : Int) / 2 ^ (n % 64)) 1 = (bt : Int) := by
          have e : (xl : Int) / 2 ^ (n % 64) = ((xl / 2 ^ n : Nat) : Int) := by rw [Nat.mod_eq_of_lt h64]; simp
          have hle : xl / 2 ^ n ≤ xl := Nat.div_le_self _ _
          rw [e, and_one _ (by omega), ← HS.out.hbt, ← bit_low x n h64, HE.out.2.1]
        by_cases hdr : (d : Int) ≤ (R : Int)
        · obtain ⟨g1, g2, g3⟩ := HS.out.hyes (by omega)
          have hsub : IntKind.u64.wrap ((R : Int) - (d : Int)) = ((R - d : Nat) : Int) := by rw [u64_in (by omega) (by omega)]; omega
          obtain ⟨R2, hR2⟩ : ∃ v, R - d = v := ⟨_, rfl⟩
          rw [hR2] at hsub g1
          have HG := Lib.hid (And.intro g1 (And.intro g2 g3))
          clear g1 g2 g3 hR2
          go_wp2_with fail
          go_roundw
          case rel => exact ⟨n, _, R2, qh2, ql3, by omega, rfl, rfl, Lib.hid ⟨HS.out.hy, HG.out.1, HG.out.2.1, HG.out.2.2, ((HR.out.2.2.2.2.1.other (by omega) _).other (by omega) _).other (by omega) _, ((HR.out.2.2.2.2.2.1.other (by omega) _).other (by omega) _).other (by omega) _, ((HR.out.2.2.2.2.2.2.1.set0 _).set1 _).set1 _, ((HR.out.2.2.2.2.2.2.2.setCell (p := ⟨w.heap.size + 1 + 1, 0, none⟩) (by show w.heap.size ≤ w.heap.size + 1 + 1; omega) _).setCell (p := ⟨w.heap.size + 1 + 1, 1, none⟩) (by show w.heap.size ≤ w.heap.size + 1 + 1; omega) _).setCell (p := ⟨w.heap.size + 1 + 1, 1, none⟩) (by show w.heap.size ≤ w.heap.size + 1 + 1; omega) _⟩⟩
          case measure => simp [intOf]
        · obtain ⟨g1, g2, g3⟩ := HS.out.hno (by omega)
          have HG := Lib.hid (And.intro g1 (And.intro g2 g3))
          clear g1 g2 g3
          go_wp2_with fail
          go_roundw
          case rel => exact ⟨n, _, R, qh2, ql2, by omega, rfl, rfl, Lib.hid ⟨HS.out.hy, HG.out.1, HG.out.2.1, HG.out.2.2, (HR.out.2.2.2.2.1.other (by omega) _).other (by omega) _, (HR.out.2.2.2.2.2.1.other (by omega) _).other (by omega) _, (HR.out.2.2.2.2.2.2.1.set0 _).set1 _, (HR.out.2.2.2.2.2.2.2.setCell (p := ⟨w.heap.size + 1 + 1, 0, none⟩) (by show w.heap.size ≤ w.heap.size + 1 + 1; omega) _).setCell (p := ⟨w.heap.size + 1 + 1, 1, none⟩) (by show w.heap.size ≤ w.heap.size + 1 + 1; omega) _⟩⟩
          case measure => simp [intOf]
      · have h64i : (64 : Int) ≤ (n : Int) := by omega
        have hbit : bits .and .u64 ((xh : Int) / 2 ^ (n - 64)) 1 = (bt : Int) := by
          have e : (xh : Int) / 2 ^ (n - 64) = ((xh / 2 ^ (n - 64) : Nat) : Int) := by simp
          have hle : xh / 2 ^ (n - 64) ≤ xh := Nat.div_le_self _ _
          rw [e, and_one _ (by omega), ← HS.out.hbt, ← bit_high x n (by omega), HE.out.1]
        by_cases hdr : (d : Int) ≤ (R : Int)
        · obtain ⟨g1, g2, g3⟩ := HS.out.hyes (by omega)
          have hsub : IntKind.u64.wrap ((R : Int) - (d : Int)) = ((R - d : Nat) : Int) := by rw [u64_in (by omega) (by omega)]; omega
          obtain ⟨R2, hR2⟩ : ∃ v, R - d = v := ⟨_, rfl⟩
          rw [hR2] at hsub g1
          have HG := Lib.hid (And.intro g1 (And.intro g2 g3))
          clear g1 g2 g3 hR2
          go_wp2_with fail
          go_roundw
          case rel => exact ⟨n, _, R2, qh2, ql3, by omega, rfl, rfl, Lib.hid ⟨HS.out.hy, HG.out.1, HG.out.2.1, HG.out.2.2, ((HR.out.2.2.2.2.1.other (by omega) _).other (by omega) _).other (by omega) _, ((HR.out.2.2.2.2.2.1.other (by omega) _).other (by omega) _).other (by omega) _, ((HR.out.2.2.2.2.2.2.1.set0 _).set1 _).set1 _, ((HR.out.2.2.2.2.2.2.2.setCell (p := ⟨w.heap.size + 1 + 1, 0, none⟩) (by show w.heap.size ≤ w.heap.size + 1 + 1; omega) _).setCell (p := ⟨w.heap.size + 1 + 1, 1, none⟩) (by show w.heap.size ≤ w.heap.size + 1 + 1; omega) _).setCell (p := ⟨w.heap.size + 1 + 1, 1, none⟩) (by show w.heap.size ≤ w.heap.size + 1 + 1; omega) _⟩⟩
          case measure => simp [intOf]
        · obtain ⟨g1, g2, g3⟩ := HS.out.hno (by omega)
          have HG := Lib.hid (And.intro g1 (And.intro g2 g3))
          clear g1 g2 g3
          go_wp2_with fail
          go_roundw
          case rel => exact ⟨n, _, R, qh2, ql2, by omega, rfl, rfl, Lib.hid ⟨HS.out.hy, HG.out.1, HG.out.2.1, HG.out.2.2, (HR.out.2.2.2.2.1.other (by omega) _).other (by omega) _, (HR.out.2.2.2.2.2.1.other (by omega) _).other (by omega) _, (HR.out.2.2.2.2.2.2.1.set0 _).set1 _, (HR.out.2.2.2.2.2.2.2.setCell (p := ⟨w.heap.size + 1 + 1, 0, none⟩) (by show w.heap.size ≤ w.heap.size + 1 + 1; omega) _).setCell (p := ⟨w.heap.size + 1 + 1, 1, none⟩) (by show w.heap.size ≤ w.heap.size + 1 + 1; omega) _⟩⟩
          case measure => simp [intOf]
end Go.Proofs.YtaneocedklnajaaGreat
/- The reference's sum of fractions. Condition: the fractions are valid ones. -/
namespace Go.Proofs.YtaneocedklnajaaGreat
open Go.RowKit
set_option linter.unusedVariables false

theorem wideTimes_all (x y N : Nat) (hi lo : Int) (w : World) (hN : N ≤ w.heap.size) (hx : x < 9223372036854775808) (hy : y < 9223372036854775808) (h : wv (x * y) = .agg #[.int .u64 hi, .int .u64 lo]) :
    Calls Tryz.prog 102 #[.int .i64 (x : Nat), .int .i64 (y : Nat)] w fun e w' => e = .returned (.agg #[.int .u64 hi, .int .u64 lo]) ∧ Hid (Below w.heap.size w w') ∧
      (∀ b o, b < N → w'.cell? ⟨b, o, none⟩ = w.cell? ⟨b, o, none⟩) ∧ (N < w.heap.size → ∀ o, w'.cell? ⟨N, o, none⟩ = w.cell? ⟨N, o, none⟩) ∧ (N < w.heap.size → ∀ o, w'.frozen? ⟨N, o, none⟩ = w.frozen? ⟨N, o, none⟩) ∧ N ≤ w'.heap.size := by
  refine (l01Times_any x y w hx hy).mono ?_
  rintro e w' ⟨rfl, e4⟩
  exact ⟨by rw [← h]; rfl, Lib.hid e4, fun b o h => e4.cell (p := ⟨b, o, none⟩) (Nat.lt_of_lt_of_le h hN), fun h o => e4.cell (p := ⟨N, o, none⟩) h, fun h o => e4.frozen (p := ⟨N, o, none⟩) h, Nat.le_trans hN e4.size⟩
theorem wv_parts (z : Nat) : ∃ hi lo, wv z = .agg #[.int .u64 hi, .int .u64 lo] := ⟨_, _, rfl⟩
/-- The parts of a sum. -/
structure FaN (p q : Int) (b c d : Nat) : Prop where
  p : p.natAbs ≤ 1000000000000000000
  q : q.natAbs ≤ 1000000000000000000
  b0 : 0 < b
  b1 : b ≤ 1000000000000000000
  c0 : 0 < c
  c1 : c ≤ 1000000000000000000
  d : d = b.gcd c
theorem small_pair (z : Nat) (hi lo : Int) (h : wv z = .agg #[.int .u64 hi, .int .u64 lo]) : ∃ (n : Int) (ok : Bool), (∀ w, Calls Tryz.prog 101 #[.agg #[.int .u64 hi, .int .u64 lo]] w fun e w' => e = .returned (.tuple #[.int .i64 n, .bool ok]) ∧ Below w.heap.size w w') ∧ ok = decide (z ≤ 1000000000000000000) ∧ (ok = true → n = ((z : Nat) : Int)) := by
  by_cases k : z ≤ 1000000000000000000
  · refine ⟨(z : Int), true, fun w => ?_, by simp [k], fun _ => rfl⟩
    have := l01Small_any z w
    rw [if_pos k] at this
    rw [← h]
    exact this
  · refine ⟨0, false, fun w => ?_, by simp [k], fun e => by cases e⟩
    have := l01Small_any z w
    rw [if_neg k] at this
    rw [← h]
    exact this
theorem fa_yes {Rf : Rat} {mn : Bool} {E K : Nat} (hn : Rf.num = sgn mn E) (hd : Rf.den = K) (h1 : E ≤ 1000000000000000000) (h2 : K ≤ 1000000000000000000) : fracV Rf = .tuple #[.agg #[.int .i64 (sgn mn E), .int .i64 (K : Int)], .bool true] := by
  rw [fracV_yes (by unfold fitR; rw [hn, hd, sgn_abs, decide_eq_true h1, decide_eq_true h2]; rfl), hn, hd]
theorem fa_no {Rf : Rat} {mn : Bool} {E K : Nat} (hn : Rf.num = sgn mn E) (hd : Rf.den = K) (h : ¬ (E ≤ 1000000000000000000 ∧ K ≤ 1000000000000000000)) : fracV Rf = .tuple #[.agg #[.int .i64 0, .int .i64 0], .bool false] := by
  refine fracV_no ?_
  unfold fitR
  rw [hn, hd, sgn_abs]
  by_cases h1 : E ≤ 1000000000000000000
  · rw [decide_eq_true h1, decide_eq_false (fun h2 => h ⟨h1, h2⟩)]; rfl
  · rw [decide_eq_false h1]; rfl
theorem sgn_div (mn : Bool) (T G : Nat) (h : G ∣ T) : sgn mn T / (G : Int) = sgn mn (T / G) := by
  have hg : ((T / G : Nat) : Int) = (T : Int) / (G : Int) := by simp
  cases mn with
  | false => simp only [sgn, Bool.false_eq_true, if_false]; rw [hg]
  | true =>
    simp only [sgn, if_true]
    rw [hg, Int.neg_ediv_of_dvd (Int.ofNat_dvd.2 h)]
/-- What lies in memory ahead of the switch. -/
def Fa5 (w : World) (b7 b8 bA : Nat) (p q : Int) (b c : Nat) (xh xl yh yl : Int) (wr : World) : Prop := C2 wr w.heap.size (.int .i64 p) (.int .i64 (b : Nat)) ∧ C2 wr (w.heap.size + 1) (.int .i64 q) (.int .i64 (c : Nat)) ∧ C2 wr (w.heap.size + 1 + 1) (.int .i64 0) (.int .i64 0) ∧ Below w.heap.size w wr ∧ C2 wr b7 (.int .u64 xh) (.int .u64 xl) ∧ C2 wr b8 (.int .u64 yh) (.int .u64 yl) ∧ C2 wr bA (.int .u64 0) (.int .u64 0)
theorem Fa5.all {w wr wx : World} {b7 b8 bA : Nat} {p q : Int} {b c : Nat} {xh xl yh yl : Int} (h : Fa5 w b7 b8 bA p q b c xh xl yh yl wr) (hb : Below wr.heap.size wr wx) : Fa5 w b7 b8 bA p q b c xh xl yh yl wx :=
  ⟨h.1.all hb, h.2.1.all hb, h.2.2.1.all hb, bthen h.2.2.2.1 hb, h.2.2.2.2.1.all hb, h.2.2.2.2.2.1.all hb, h.2.2.2.2.2.2.all hb⟩
set_option maxRecDepth 20000 in
set_option maxHeartbeats 6400000 in
theorem l01FAdd_any (p q : Int) (b c : Nat) (w : World) (hp : p.natAbs ≤ 1000000000000000000) (hq : q.natAbs ≤ 1000000000000000000) (hb : 0 < b) (hb2 : b ≤ 1000000000000000000) (hc : 0 < c) (hc2 : c ≤ 1000000000000000000) (hg1 : p.natAbs.gcd b = 1) (hg2 : q.natAbs.gcd c = 1) :
    Calls Tryz.prog 100 #[.agg #[.int .i64 p, .int .i64 (b : Nat)], .agg #[.int .i64 q, .int .i64 (c : Nat)]] w fun e w' => e = .returned (fracV (mkRat p b + mkRat q c)) ∧ Below w.heap.size w w' := by
  obtain ⟨d, hd⟩ : ∃ d, b.gcd c = d := ⟨_, rfl⟩
  have hd0 : 0 < d := by rw [← hd]; exact Nat.gcd_pos_of_pos_left _ hb
  have hdb : d ≤ b := by rw [← hd]; exact Nat.gcd_le_left _ hb
  have HG := Lib.hid (fun (w : World) => l01Gcd_any b c w (by omega) (by omega))
  rw [hd] at HG
  obtain ⟨U, hU⟩ : ∃ U, p.natAbs = U := ⟨_, rfl⟩
  obtain ⟨V, hV⟩ : ∃ V, q.natAbs = V := ⟨_, rfl⟩
  have HM1 := Lib.hid (fun (w : World) => l00Max_abs p w (by omega) (by omega))
  have HM2 := Lib.hid (fun (w : World) => l00Max_abs q w (by omega) (by omega))
  rw [hU] at HM1
  rw [hV] at HM2
  have hwp : IntKind.i64.wrap (-p) = -p := IntWalk.i64_in _ (by omega)
  have hwq : IntKind.i64.wrap (-q) = -q := IntWalk.i64_in _ (by omega)
  obtain ⟨C, hC⟩ : ∃ C, c / d = C := ⟨_, rfl⟩
  obtain ⟨B, hB⟩ : ∃ B, b / d = B := ⟨_, rfl⟩
  have hCb : C ≤ 1000000000000000000 := by rw [← hC]; exact Nat.le_trans (Nat.div_le_self _ _) hc2
  have hBb : B ≤ 1000000000000000000 := by rw [← hB]; exact Nat.le_trans (Nat.div_le_self _ _) hb2
  have hdiv1 : (c : Int).tdiv (d : Int) = (C : Int) := by rw [← hC]; rfl
  have hdiv1' : (c : Int) / (d : Int) = (C : Int) := by rw [← hC]; simp
  have hdiv2 : (b : Int).tdiv (d : Int) = (B : Int) := by rw [← hB]; rfl
  have hdiv2' : (b : Int) / (d : Int) = (B : Int) := by rw [← hB]; simp
  have hdn : ¬ (d : Int) = 0 := by omega
  have hdn2 : ¬ d = 0 := by omega
  have hdnb : ((d : Int) == 0) = false := by rw [beq_eq_false_iff_ne]; omega
  have hwC : IntKind.i64.wrap (C : Int) = (C : Int) := IntWalk.i64_in _ (by omega)
  have hwB : IntKind.i64.wrap (B : Int) = (B : Int) := IntWalk.i64_in _ (by omega)
  obtain ⟨xh, xl, hx⟩ := wv_parts (U * C)
  obtain ⟨yh, yl, hy⟩ := wv_parts (V * B)
  have HXY := Lib.hid (And.intro hx hy)
  have HN := Lib.hid (And.intro hd (And.intro hd0 (And.intro hU (And.intro hV (And.intro hC (And.intro hB (And.intro hg1 (And.intro hg2 (And.intro hb hc)))))))))
  have hUb : U < 9223372036854775808 := by omega
  have hVb : V < 9223372036854775808 := by omega
  obtain ⟨Rf, hRf⟩ : ∃ R, mkRat p b + mkRat q c = R := ⟨_, rfl⟩
  rw [hRf]
  have HRf := Lib.hid hRf
  clear hd hU hV hC hB hx hy hg1 hg2 hp hq hRf hdb hb hc hd0
  go_enter Tryz.func100, Tryz.ntmps100
  go_wp2_with fail
  obtain ⟨t0, t1, t2⟩ := three_boxes w (.cells #[.int .i64 p, .int .i64 (b : Nat)] 40) (.cells #[.int .i64 q, .int .i64 (c : Nat)] 40) (.cells #[.int .i64 0, .int .i64 0] 40)
  have HA0 : Below w.heap.size w (((w.alloc (.cells #[.int .i64 p, .int .i64 (b : Nat)] 40)).alloc (.cells #[.int .i64 q, .int .i64 (c : Nat)] 40)).alloc (.cells #[.int .i64 0, .int .i64 0] 40)) := (((Below.refl _ w).alloc (Nat.le_refl _) _).alloc (by simp) _).alloc (by simp only [alloc_size]; omega) _
  obtain ⟨w1, hw1⟩ : ∃ w', (((w.alloc (.cells #[.int .i64 p, .int .i64 (b : Nat)] 40)).alloc (.cells #[.int .i64 q, .int .i64 (c : Nat)] 40)).alloc (.cells #[.int .i64 0, .int .i64 0] 40)) = w' := ⟨_, rfl⟩
  rw [hw1] at t0 t1 t2 HA0 ⊢
  clear hw1
  have H1 := Lib.hid (And.intro (C2.of_heap t0) (And.intro (C2.of_heap t1) (And.intro (C2.of_heap t2) HA0)))
  clear t0 t1 t2 HA0
  refine (HG.out _).mono ?_
  rintro e w2 ⟨rfl, rfl⟩
  obtain ⟨z0, z1, _, _, z4⟩ := H1.out.1
  obtain ⟨y0, y1, _, _, y4⟩ := H1.out.2.1
  have g4 : w.heap.size + 1 + 1 < w1.heap.size := H1.out.2.2.1.lt
  go_upto_region 2 with fail
  go_cut [7] (fun v7 wc => ∃ b7 : Nat, v7 = .pointer (some ⟨b7, 0, none⟩) ∧ Hid (C2 wc b7 (.int .u64 xh) (.int .u64 xl) ∧ w1.heap.size ≤ b7 ∧ Below w1.heap.size w1 wc))
  case first =>
    have hdw : w1.drew.heap.size = w1.heap.size := rfl
    have hda : ∀ o, (w1.alloc o).drew.heap.size = w1.heap.size + 1 := fun o => alloc_size w1 o
    have hds : ∀ o, (w1.drew.alloc o).heap.size = w1.heap.size + 1 := fun o => alloc_size w1.drew o
    have hn0 := World.new_ne w1 _ z0
    have hn1 := World.new_ne w1 _ y0
    simp at hn0 hn1
    go_region_held3 (fun w' => w'.cell? ⟨w.heap.size, 0, none⟩ = some (.int .i64 p) ∧ w'.cell? ⟨w.heap.size + 1, 1, none⟩ = some (.int .i64 (c : Nat)) ∧ w.heap.size < w'.heap.size ∧ w.heap.size + 1 < w'.heap.size)
      ((repeat' refine And.intro ?_ ?_) <;> first | (go_keep; done) | (go_keep; omega))
      (first
        | (go_at_call 69; refine (HM1.out _).mono ?_; rintro e w5 ⟨rfl, rfl⟩)
        | (go_at_call 102; refine (wideTimes_all U C w1.heap.size xh xl _ ?_ hUb (by omega) HXY.out.1).mono ?_; (first | exact Nat.le_refl _ | (rw [hda]; omega) | (rw [hds]; omega) | (simp; done)); rintro e w7 ⟨rfl, hX3, r0, r1, r2, r3⟩; have r00 := (fun o => r0 w.heap.size o (by omega)); have r01 := (fun o => r0 (w.heap.size + 1) o (by omega)); have r4 : w.heap.size < w7.heap.size := (by omega); have r5 : w.heap.size + 1 < w7.heap.size := (by omega); clear r0))
    all_goals (go_wp2_with fail)
    all_goals go_meet
    all_goals first
      | exact ⟨w7.heap.size, rfl, Lib.hid ⟨C2.new w7 _ _ _, r3, (bthen (Below.refl _ w1).drew hX3.out).alloc r3 _⟩⟩
      | (have hn : C2 (w1.drew.alloc (.cells #[.int .u64 0, .int .u64 0] 126)) w1.heap.size (.int .u64 0) (.int .u64 0) := C2.new w1.drew _ _ _
         have h7 : C2 w7 w1.heap.size (.int .u64 0) (.int .u64 0) := hn.below hn.lt hX3.out
         exact ⟨w1.heap.size, rfl, Lib.hid ⟨(h7.set0 _).set1 _, Nat.le_refl _, ((bthen (below_e1 w1 _) hX3.out).setCell (p := ⟨w1.heap.size, 0, none⟩) (Nat.le_refl _) _).setCell (p := ⟨w1.heap.size, 1, none⟩) (Nat.le_refl _) _⟩⟩)
  case rest =>
    obtain ⟨b7, rfl, H7⟩ := hcut
    have H2 := Lib.hid (And.intro (H1.out.1.all H7.out.2.2) (And.intro (H1.out.2.1.all H7.out.2.2) (And.intro (H1.out.2.2.1.all H7.out.2.2) (And.intro (bthen H1.out.2.2.2 H7.out.2.2) H7.out.1))))
    have hlt7 : w.heap.size + 1 + 1 < b7 := Nat.lt_of_lt_of_le g4 H7.out.2.1
    clear z0 z1 z4 y0 y1 y4 g4 H1 H7
    obtain ⟨z0, z1, _, _, z4⟩ := H2.out.1
    obtain ⟨y0, y1, _, _, y4⟩ := H2.out.2.1
    have b74 : b7 < wc.heap.size := H2.out.2.2.2.2.lt
    go_upto_region 3 with fail
    go_cut [8] (fun v8 wd => ∃ b8 : Nat, v8 = .pointer (some ⟨b8, 0, none⟩) ∧ Hid (C2 wd b8 (.int .u64 yh) (.int .u64 yl) ∧ wc.heap.size ≤ b8 ∧ Below wc.heap.size wc wd))
    case first =>
      have hdw : wc.drew.heap.size = wc.heap.size := rfl
      have hda : ∀ o, (wc.alloc o).drew.heap.size = wc.heap.size + 1 := fun o => alloc_size wc o
      have hds : ∀ o, (wc.drew.alloc o).heap.size = wc.heap.size + 1 := fun o => alloc_size wc.drew o
      have hn0 := World.new_ne wc _ z0
      have hn1 := World.new_ne wc _ y0
      simp at hn0 hn1
      go_region_held3 (fun w' => w'.cell? ⟨w.heap.size + 1, 0, none⟩ = some (.int .i64 q) ∧ w'.cell? ⟨w.heap.size, 1, none⟩ = some (.int .i64 (b : Nat)) ∧ w.heap.size < w'.heap.size ∧ w.heap.size + 1 < w'.heap.size)
        ((repeat' refine And.intro ?_ ?_) <;> first | (go_keep; done) | (go_keep; omega))
        (first
          | (go_at_call 69; refine (HM2.out _).mono ?_; rintro e w5 ⟨rfl, rfl⟩)
          | (go_at_call 102; refine (wideTimes_all V B wc.heap.size yh yl _ ?_ hVb (by omega) HXY.out.2).mono ?_; (first | exact Nat.le_refl _ | (rw [hda]; omega) | (rw [hds]; omega) | (simp; done)); rintro e w7 ⟨rfl, hX3, r0, r1, r2, r3⟩; have r00 := (fun o => r0 w.heap.size o (by omega)); have r01 := (fun o => r0 (w.heap.size + 1) o (by omega)); have r4 : w.heap.size < w7.heap.size := (by omega); have r5 : w.heap.size + 1 < w7.heap.size := (by omega); clear r0))
      all_goals (go_wp2_with fail)
      all_goals go_meet
      all_goals first
        | exact ⟨w7.heap.size, rfl, Lib.hid ⟨C2.new w7 _ _ _, r3, (bthen (Below.refl _ wc).drew hX3.out).alloc r3 _⟩⟩
        | (have hn : C2 (wc.drew.alloc (.cells #[.int .u64 0, .int .u64 0] 126)) wc.heap.size (.int .u64 0) (.int .u64 0) := C2.new wc.drew _ _ _
           have h7 : C2 w7 wc.heap.size (.int .u64 0) (.int .u64 0) := hn.below hn.lt hX3.out
           exact ⟨wc.heap.size, rfl, Lib.hid ⟨(h7.set0 _).set1 _, Nat.le_refl _, ((bthen (below_e1 wc _) hX3.out).setCell (p := ⟨wc.heap.size, 0, none⟩) (Nat.le_refl _) _).setCell (p := ⟨wc.heap.size, 1, none⟩) (Nat.le_refl _) _⟩⟩)
    case rest =>
      obtain ⟨b8, rfl, H8⟩ := hcut
      have H3 := Lib.hid (And.intro (H2.out.1.all H8.out.2.2) (And.intro (H2.out.2.1.all H8.out.2.2) (And.intro (H2.out.2.2.1.all H8.out.2.2) (And.intro (bthen H2.out.2.2.2.1 H8.out.2.2) (And.intro (H2.out.2.2.2.2.all H8.out.2.2) H8.out.1)))))
      have hlt8 : b7 < b8 := Nat.lt_of_lt_of_le b74 H8.out.2.1
      clear z0 z1 z4 y0 y1 y4 b74 H2 H8
      obtain ⟨z0, z1, _, _, z4⟩ := H3.out.1
      go_upto_block 0 with fail
      have hbw : Below wc.heap.size wc (wc.alloc (.cells #[.int .u64 0, .int .u64 0] 126)) := (Below.refl _ wc).alloc (Nat.le_refl _) _
      have hnw := C2.new wc 126 (.int .u64 0) (.int .u64 0)
      have hlt9 : b8 < wc.heap.size := H3.out.2.2.2.2.2.lt
      obtain ⟨we, hwe⟩ : ∃ w', wc.alloc (.cells #[.int .u64 0, .int .u64 0] 126) = w' := ⟨_, rfl⟩
      rw [hwe] at hbw hnw ⊢
      have H5a := Lib.hid (And.intro (H3.out.1.all hbw) (And.intro (H3.out.2.1.all hbw) (And.intro (H3.out.2.2.1.all hbw) (And.intro (bthen H3.out.2.2.2.1 hbw) (And.intro (H3.out.2.2.2.2.1.all hbw) (And.intro (H3.out.2.2.2.2.2.all hbw) hnw))))))
      obtain ⟨bA, hbA⟩ : ∃ b, wc.heap.size = b := ⟨_, rfl⟩
      rw [hbA] at H5a hlt9 ⊢
      have H5 := Lib.hid (show Fa5 w b7 b8 bA p q b c xh xl yh yl we from H5a.out)
      clear H5a
      clear z0 z1 z4 hwe hbw hnw hbA H3
      go_cut [9, 10] (fun v9 v10 wf => v10 = .pointer (some ⟨bA, 0, none⟩) ∧ ∃ (mn : Bool) (T : Nat) (th tl : Int), v9 = .bool mn ∧ Hid (wv T = .agg #[.int .u64 th, .int .u64 tl] ∧ T < 2 ^ 127 ∧ p * (C : Int) + q * (B : Int) = sgn mn T ∧ C2 wf bA (.int .u64 th) (.int .u64 tl) ∧ C2 wf w.heap.size (.int .i64 p) (.int .i64 (b : Nat)) ∧ C2 wf (w.heap.size + 1) (.int .i64 q) (.int .i64 (c : Nat)) ∧ C2 wf (w.heap.size + 1 + 1) (.int .i64 0) (.int .i64 0) ∧ Below w.heap.size w wf))
      case first =>
        have hXb : U * C < 2 ^ 126 := Nat.lt_of_lt_of_le (Nat.mul_lt_mul'' hUb (show C < 9223372036854775808 by omega)) (by decide)
        have hYb : V * B < 2 ^ 126 := Nat.lt_of_lt_of_le (Nat.mul_lt_mul'' hVb (show B < 9223372036854775808 by omega)) (by decide)
        obtain ⟨ph, pl, hpl⟩ := wv_parts (U * C + V * B)
        obtain ⟨mh, ml, hml⟩ := wv_parts (U * C - V * B)
        obtain ⟨nh, nl, hnl⟩ := wv_parts (V * B - U * C)
        have HP := Lib.hid (fun (w : World) => l01Plus_any (U * C) (V * B) w hXb hYb)
        have HMi := Lib.hid (fun (h : V * B ≤ U * C) (w : World) => l01Minus_any (U * C) (V * B) w (by omega) h)
        have HNi := Lib.hid (fun (h : U * C ≤ V * B) (w : World) => l01Minus_any (V * B) (U * C) w (by omega) h)
        have HLe := Lib.hid (fun (w : World) => l01Less_any (U * C) (V * B) w)
        rw [HXY.out.1, HXY.out.2, hpl] at HP
        rw [HXY.out.1, HXY.out.2, hml] at HMi
        rw [HXY.out.1, HXY.out.2, hnl] at HNi
        rw [HXY.out.1, HXY.out.2] at HLe
        have HW := Lib.hid (And.intro hpl (And.intro hml (And.intro hnl (And.intro hXb hYb))))
        have HS := Lib.hid (And.intro (fun h => add_same (p := p) (q := q) (d := B) (e := C) h) (And.intro (fun h k => add_ge (p := p) (q := q) (d := B) (e := C) h k) (fun h k => add_lt (p := p) (q := q) (d := B) (e := C) h k)))
        rw [HN.out.2.2.1, HN.out.2.2.2.1] at HS
        clear hXb hYb hpl hml hnl
        by_cases hpn : p < 0
        · have hpd := decide_eq_true hpn
          by_cases hqn : q < 0
          · have hqd := decide_eq_true hqn
            obtain ⟨x0, x1, _, _, _⟩ := H5.out.2.2.2.2.1
            obtain ⟨y0, y1, _, _, _⟩ := H5.out.2.2.2.2.2.1
            obtain ⟨p0, p1, _, _, _⟩ := H5.out.1
            obtain ⟨q0, q1, _, _, _⟩ := H5.out.2.1
            obtain ⟨g0, g1, g2, g3, _⟩ := H5.out.2.2.2.2.2.2
            go_wp2_with fail
            refine (HP.out _).mono ?_
            rintro e wg ⟨rfl, hbg⟩
            have H6 := Lib.hid (H5.out.all hbg)
            clear x0 x1 y0 y1 p0 p1 q0 q1 g0 g1 g2 g3
            clear hbg
            obtain ⟨x0, x1, _, _, _⟩ := H6.out.2.2.2.2.1
            obtain ⟨y0, y1, _, _, _⟩ := H6.out.2.2.2.2.2.1
            obtain ⟨p0, p1, _, _, _⟩ := H6.out.1
            obtain ⟨q0, q1, _, _, _⟩ := H6.out.2.1
            obtain ⟨g0, g1, g2, g3, _⟩ := H6.out.2.2.2.2.2.2
            go_wp2_with fail
            go_meet
            exact ⟨rfl, true, U * C + V * B, ph, pl, rfl, Lib.hid ⟨HW.out.1, by have := HW.out.2.2.2; omega, by rw [HS.out.1 (by rw [hpd, hqd]), hpd], (H6.out.2.2.2.2.2.2.set0 _).set1 _, (H6.out.1.other (by omega) _).other (by omega) _, (H6.out.2.1.other (by omega) _).other (by omega) _, (H6.out.2.2.1.other (by omega) _).other (by omega) _, (H6.out.2.2.2.1.setCell (p := ⟨bA, 0, none⟩) (by show w.heap.size ≤ bA; omega) _).setCell (p := ⟨bA, 1, none⟩) (by show w.heap.size ≤ bA; omega) _⟩⟩
          · have hqd := decide_eq_false hqn
            obtain ⟨x0, x1, _, _, _⟩ := H5.out.2.2.2.2.1
            obtain ⟨y0, y1, _, _, _⟩ := H5.out.2.2.2.2.2.1
            obtain ⟨p0, p1, _, _, _⟩ := H5.out.1
            obtain ⟨q0, q1, _, _, _⟩ := H5.out.2.1
            obtain ⟨g0, g1, g2, g3, _⟩ := H5.out.2.2.2.2.2.2
            go_wp2_with fail
            refine (HLe.out _).mono ?_
            rintro e wg ⟨rfl, hbg⟩
            have H6 := Lib.hid (H5.out.all hbg)
            clear x0 x1 y0 y1 p0 p1 q0 q1 g0 g1 g2 g3
            clear hbg
            obtain ⟨x0, x1, _, _, _⟩ := H6.out.2.2.2.2.1
            obtain ⟨y0, y1, _, _, _⟩ := H6.out.2.2.2.2.2.1
            obtain ⟨p0, p1, _, _, _⟩ := H6.out.1
            obtain ⟨q0, q1, _, _, _⟩ := H6.out.2.1
            obtain ⟨g0, g1, g2, g3, _⟩ := H6.out.2.2.2.2.2.2
            by_cases hle : U * C < V * B
            · have hld := decide_eq_true hle
              rw [hld]
              go_wp2_with fail
              refine (HNi.out (by omega) _).mono ?_
              rintro e wh ⟨rfl, hbg⟩
              have H7 := Lib.hid (H6.out.all hbg)
              clear x0 x1 y0 y1 p0 p1 q0 q1 g0 g1 g2 g3
              clear hbg
              obtain ⟨x0, x1, _, _, _⟩ := H7.out.2.2.2.2.1
              obtain ⟨y0, y1, _, _, _⟩ := H7.out.2.2.2.2.2.1
              obtain ⟨p0, p1, _, _, _⟩ := H7.out.1
              obtain ⟨q0, q1, _, _, _⟩ := H7.out.2.1
              obtain ⟨g0, g1, g2, g3, _⟩ := H7.out.2.2.2.2.2.2
              go_wp2_with fail
              go_meet
              exact ⟨rfl, false, V * B - U * C, nh, nl, rfl, Lib.hid ⟨HW.out.2.2.1, by have := HW.out.2.2.2; omega, by rw [HS.out.2.2 (by rw [hpd, hqd]; decide) hle, hqd], (H7.out.2.2.2.2.2.2.set0 _).set1 _, (H7.out.1.other (by omega) _).other (by omega) _, (H7.out.2.1.other (by omega) _).other (by omega) _, (H7.out.2.2.1.other (by omega) _).other (by omega) _, (H7.out.2.2.2.1.setCell (p := ⟨bA, 0, none⟩) (by show w.heap.size ≤ bA; omega) _).setCell (p := ⟨bA, 1, none⟩) (by show w.heap.size ≤ bA; omega) _⟩⟩
            · have hld := decide_eq_false hle
              rw [hld]
              go_wp2_with fail
              refine (HMi.out (by omega) _).mono ?_
              rintro e wh ⟨rfl, hbg⟩
              have H7 := Lib.hid (H6.out.all hbg)
              clear x0 x1 y0 y1 p0 p1 q0 q1 g0 g1 g2 g3
              clear hbg
              obtain ⟨x0, x1, _, _, _⟩ := H7.out.2.2.2.2.1
              obtain ⟨y0, y1, _, _, _⟩ := H7.out.2.2.2.2.2.1
              obtain ⟨p0, p1, _, _, _⟩ := H7.out.1
              obtain ⟨q0, q1, _, _, _⟩ := H7.out.2.1
              obtain ⟨g0, g1, g2, g3, _⟩ := H7.out.2.2.2.2.2.2
              go_wp2_with fail
              go_meet
              exact ⟨rfl, true, U * C - V * B, mh, ml, rfl, Lib.hid ⟨HW.out.2.1, by have := HW.out.2.2.2; omega, by rw [HS.out.2.1 (by rw [hpd, hqd]; decide) (by omega), hpd], (H7.out.2.2.2.2.2.2.set0 _).set1 _, (H7.out.1.other (by omega) _).other (by omega) _, (H7.out.2.1.other (by omega) _).other (by omega) _, (H7.out.2.2.1.other (by omega) _).other (by omega) _, (H7.out.2.2.2.1.setCell (p := ⟨bA, 0, none⟩) (by show w.heap.size ≤ bA; omega) _).setCell (p := ⟨bA, 1, none⟩) (by show w.heap.size ≤ bA; omega) _⟩⟩
        · have hpd := decide_eq_false hpn
          by_cases hqn : q < 0
          · have hqd := decide_eq_true hqn
            obtain ⟨x0, x1, _, _, _⟩ := H5.out.2.2.2.2.1
            obtain ⟨y0, y1, _, _, _⟩ := H5.out.2.2.2.2.2.1
            obtain ⟨p0, p1, _, _, _⟩ := H5.out.1
            obtain ⟨q0, q1, _, _, _⟩ := H5.out.2.1
            obtain ⟨g0, g1, g2, g3, _⟩ := H5.out.2.2.2.2.2.2
            go_wp2_with fail
            refine (HLe.out _).mono ?_
            rintro e wg ⟨rfl, hbg⟩
            have H6 := Lib.hid (H5.out.all hbg)
            clear x0 x1 y0 y1 p0 p1 q0 q1 g0 g1 g2 g3
            clear hbg
            obtain ⟨x0, x1, _, _, _⟩ := H6.out.2.2.2.2.1
            obtain ⟨y0, y1, _, _, _⟩ := H6.out.2.2.2.2.2.1
            obtain ⟨p0, p1, _, _, _⟩ := H6.out.1
            obtain ⟨q0, q1, _, _, _⟩ := H6.out.2.1
            obtain ⟨g0, g1, g2, g3, _⟩ := H6.out.2.2.2.2.2.2
            by_cases hle : U * C < V * B
            · have hld := decide_eq_true hle
              rw [hld]
              go_wp2_with fail
              refine (HNi.out (by omega) _).mono ?_
              rintro e wh ⟨rfl, hbg⟩
              have H7 := Lib.hid (H6.out.all hbg)
              clear x0 x1 y0 y1 p0 p1 q0 q1 g0 g1 g2 g3
              clear hbg
              obtain ⟨x0, x1, _, _, _⟩ := H7.out.2.2.2.2.1
              obtain ⟨y0, y1, _, _, _⟩ := H7.out.2.2.2.2.2.1
              obtain ⟨p0, p1, _, _, _⟩ := H7.out.1
              obtain ⟨q0, q1, _, _, _⟩ := H7.out.2.1
              obtain ⟨g0, g1, g2, g3, _⟩ := H7.out.2.2.2.2.2.2
              go_wp2_with fail
              go_meet
              exact ⟨rfl, true, V * B - U * C, nh, nl, rfl, Lib.hid ⟨HW.out.2.2.1, by have := HW.out.2.2.2; omega, by rw [HS.out.2.2 (by rw [hpd, hqd]; decide) hle, hqd], (H7.out.2.2.2.2.2.2.set0 _).set1 _, (H7.out.1.other (by omega) _).other (by omega) _, (H7.out.2.1.other (by omega) _).other (by omega) _, (H7.out.2.2.1.other (by omega) _).other (by omega) _, (H7.out.2.2.2.1.setCell (p := ⟨bA, 0, none⟩) (by show w.heap.size ≤ bA; omega) _).setCell (p := ⟨bA, 1, none⟩) (by show w.heap.size ≤ bA; omega) _⟩⟩
            · have hld := decide_eq_false hle
              rw [hld]
              go_wp2_with fail
              refine (HMi.out (by omega) _).mono ?_
              rintro e wh ⟨rfl, hbg⟩
              have H7 := Lib.hid (H6.out.all hbg)
              clear x0 x1 y0 y1 p0 p1 q0 q1 g0 g1 g2 g3
              clear hbg
              obtain ⟨x0, x1, _, _, _⟩ := H7.out.2.2.2.2.1
              obtain ⟨y0, y1, _, _, _⟩ := H7.out.2.2.2.2.2.1
              obtain ⟨p0, p1, _, _, _⟩ := H7.out.1
              obtain ⟨q0, q1, _, _, _⟩ := H7.out.2.1
              obtain ⟨g0, g1, g2, g3, _⟩ := H7.out.2.2.2.2.2.2
              go_wp2_with fail
              go_meet
              exact ⟨rfl, false, U * C - V * B, mh, ml, rfl, Lib.hid ⟨HW.out.2.1, by have := HW.out.2.2.2; omega, by rw [HS.out.2.1 (by rw [hpd, hqd]; decide) (by omega), hpd], (H7.out.2.2.2.2.2.2.set0 _).set1 _, (H7.out.1.other (by omega) _).other (by omega) _, (H7.out.2.1.other (by omega) _).other (by omega) _, (H7.out.2.2.1.other (by omega) _).other (by omega) _, (H7.out.2.2.2.1.setCell (p := ⟨bA, 0, none⟩) (by show w.heap.size ≤ bA; omega) _).setCell (p := ⟨bA, 1, none⟩) (by show w.heap.size ≤ bA; omega) _⟩⟩
          · have hqd := decide_eq_false hqn
            obtain ⟨x0, x1, _, _, _⟩ := H5.out.2.2.2.2.1
            obtain ⟨y0, y1, _, _, _⟩ := H5.out.2.2.2.2.2.1
            obtain ⟨p0, p1, _, _, _⟩ := H5.out.1
            obtain ⟨q0, q1, _, _, _⟩ := H5.out.2.1
            obtain ⟨g0, g1, g2, g3, _⟩ := H5.out.2.2.2.2.2.2
            go_wp2_with fail
            refine (HP.out _).mono ?_
            rintro e wg ⟨rfl, hbg⟩
            have H6 := Lib.hid (H5.out.all hbg)
            clear x0 x1 y0 y1 p0 p1 q0 q1 g0 g1 g2 g3
            clear hbg
            obtain ⟨x0, x1, _, _, _⟩ := H6.out.2.2.2.2.1
            obtain ⟨y0, y1, _, _, _⟩ := H6.out.2.2.2.2.2.1
            obtain ⟨p0, p1, _, _, _⟩ := H6.out.1
            obtain ⟨q0, q1, _, _, _⟩ := H6.out.2.1
            obtain ⟨g0, g1, g2, g3, _⟩ := H6.out.2.2.2.2.2.2
            go_wp2_with fail
            go_meet
            exact ⟨rfl, false, U * C + V * B, ph, pl, rfl, Lib.hid ⟨HW.out.1, by have := HW.out.2.2.2; omega, by rw [HS.out.1 (by rw [hpd, hqd]), hpd], (H6.out.2.2.2.2.2.2.set0 _).set1 _, (H6.out.1.other (by omega) _).other (by omega) _, (H6.out.2.1.other (by omega) _).other (by omega) _, (H6.out.2.2.1.other (by omega) _).other (by omega) _, (H6.out.2.2.2.1.setCell (p := ⟨bA, 0, none⟩) (by show w.heap.size ≤ bA; omega) _).setCell (p := ⟨bA, 1, none⟩) (by show w.heap.size ≤ bA; omega) _⟩⟩
      case rest =>
        obtain ⟨rfl, mn, T, th, tl, rfl, HF⟩ := hcut
        obtain ⟨G, hG⟩ : ∃ G, T.gcd d = G := ⟨_, rfl⟩
        have hG0 : 0 < G := by rw [← hG]; exact Nat.gcd_pos_of_pos_right _ HN.out.2.1
        have hGd : G ≤ d := by rw [← hG]; exact Nat.gcd_le_right _ HN.out.2.1
        have hGT : G ∣ T := by rw [← hG]; exact Nat.gcd_dvd_left _ _
        have hdb : d ≤ b := by rw [← HN.out.1]; exact Nat.gcd_le_left _ HN.out.2.2.2.2.2.2.2.2.1
        have hgr : Nat.gcd d (T % d) = G := by rw [Nat.gcd_comm, ← Nat.gcd_rec, Nat.gcd_comm, hG]
        have hfa := fadd (p := p) (q := q) (t := sgn mn T) (d := d) HN.out.2.2.2.2.2.2.2.2.1 HN.out.2.2.2.2.2.2.2.2.2 HN.out.2.2.2.2.2.2.1 HN.out.2.2.2.2.2.2.2.1 HN.out.1.symm (by rw [HN.out.2.2.2.2.1, HN.out.2.2.2.2.2.1]; exact HF.out.2.2.1.symm)
        rw [HRf.out, sgn_abs, hG, sgn_div mn T G hGT, HN.out.2.2.2.2.2.1] at hfa
        obtain ⟨rr, hrr⟩ : ∃ r, T % d = r := ⟨_, rfl⟩
        have hrd : rr < d := by rw [← hrr]; exact Nat.mod_lt _ HN.out.2.1
        obtain ⟨r2, hr2⟩ : ∃ r, T % G = r := ⟨_, rfl⟩
        obtain ⟨E, hE⟩ : ∃ E, T / G = E := ⟨_, rfl⟩
        obtain ⟨D2, hD2⟩ : ∃ D2, c / G = D2 := ⟨_, rfl⟩
        obtain ⟨dh, dl, hdw⟩ := wv_parts (T / d)
        obtain ⟨eh, el, hew⟩ := wv_parts E
        have HS1 := Lib.hid (fun (w : World) => l01Split_any T d w HF.out.2.1 HN.out.2.1 (by omega))
        rw [HF.out.1, hdw, hrr] at HS1
        have HG2 := Lib.hid (fun (w : World) => l01Gcd_any d rr w (by omega) (by omega))
        rw [← hrr, hgr, hrr] at HG2
        have HS2 := Lib.hid (fun (w : World) => l01Split_any T G w HF.out.2.1 hG0 (by omega))
        rw [HF.out.1, hE, hew, hr2] at HS2
        have hD2b : D2 ≤ 1000000000000000000 := by rw [← hD2]; exact Nat.le_trans (Nat.div_le_self _ _) hc2
        obtain ⟨n1, ok1, x1, x2, x3⟩ := small_pair E eh el hew
        obtain ⟨hi2, lo2, n2, ok2, x5, x6, x7, x8⟩ := wide_pair B D2 (by omega) (by omega)
        rw [hE, hD2] at hfa
        obtain ⟨K, hKe⟩ : ∃ K, B * D2 = K := ⟨_, rfl⟩
        rw [hKe] at hfa x7 x8
        have hEK : E = 0 → K = 1 := fun h0 => by
          have hred := Rf.reduced
          rw [hfa.1, sgn_abs, hfa.2, h0] at hred
          simpa [Nat.Coprime] using hred
        have HX := Lib.hid (And.intro x1 (And.intro x5 x6))
        have HK := Lib.hid (And.intro x2 (And.intro x3 (And.intro x7 (And.intro x8 (And.intro hfa hEK)))))
        have hdiv3 : (c : Int).tdiv (G : Int) = (D2 : Int) := by rw [← hD2]; rfl
        have hdiv3' : (c : Int) / (G : Int) = (D2 : Int) := by rw [← hD2]; simp
        have hGn : ¬ (G : Int) = 0 := by omega
        have hGn2 : ¬ G = 0 := by omega
        have hwD2 : IntKind.i64.wrap (D2 : Int) = (D2 : Int) := IntWalk.i64_in _ (by omega)
        clear x1 x2 x3 x5 x6 x7 x8 hfa hEK hG hGT hgr hrr hr2 hE hD2 hdw hew hKe
        obtain ⟨k0, k1, _, _, _⟩ := HF.out.2.2.2.1
        go_wp2_with fail
        refine (HS1.out _).mono ?_
        rintro e w5 ⟨rfl, hb5⟩
        have H5 := Lib.hid (And.intro (HF.out.2.2.2.1.all hb5) (And.intro (HF.out.2.2.2.2.1.all hb5) (And.intro (HF.out.2.2.2.2.2.1.all hb5) (And.intro (HF.out.2.2.2.2.2.2.1.all hb5) (bthen HF.out.2.2.2.2.2.2.2 hb5)))))
        clear hb5 k0 k1
        obtain ⟨k0, k1, _, _, _⟩ := H5.out.1
        go_wp2_with fail
        have hb6 : Below w5.heap.size w5 (w5.alloc (.cells #[.int .u64 dh, .int .u64 dl] 126)) := (Below.refl _ w5).alloc (Nat.le_refl _) _
        obtain ⟨w6, hw6⟩ : ∃ w', w5.alloc (.cells #[.int .u64 dh, .int .u64 dl] 126) = w' := ⟨_, rfl⟩
        rw [hw6] at hb6 ⊢
        have H6 := Lib.hid (And.intro (H5.out.1.all hb6) (And.intro (H5.out.2.1.all hb6) (And.intro (H5.out.2.2.1.all hb6) (And.intro (H5.out.2.2.2.1.all hb6) (bthen H5.out.2.2.2.2 hb6)))))
        clear hw6 hb6 k0 k1
        refine (HG2.out _).mono ?_
        rintro e w' ⟨rfl, rfl⟩
        obtain ⟨k0, k1, _, _, _⟩ := H6.out.1
        go_wp2_with fail
        refine (HS2.out _).mono ?_
        rintro e w7 ⟨rfl, hb7⟩
        have H7 := Lib.hid (And.intro (H6.out.1.all hb7) (And.intro (H6.out.2.1.all hb7) (And.intro (H6.out.2.2.1.all hb7) (And.intro (H6.out.2.2.2.1.all hb7) (bthen H6.out.2.2.2.2 hb7)))))
        clear hb7 k0 k1
        go_wp2_with fail
        have hb8 : Below w7.heap.size w7 (w7.alloc (.cells #[.int .u64 eh, .int .u64 el] 126)) := (Below.refl _ w7).alloc (Nat.le_refl _) _
        obtain ⟨w8, hw8⟩ : ∃ w', w7.alloc (.cells #[.int .u64 eh, .int .u64 el] 126) = w' := ⟨_, rfl⟩
        rw [hw8] at hb8 ⊢
        have H8 := Lib.hid (And.intro (H7.out.1.all hb8) (And.intro (H7.out.2.1.all hb8) (And.intro (H7.out.2.2.1.all hb8) (And.intro (H7.out.2.2.2.1.all hb8) (bthen H7.out.2.2.2.2 hb8)))))
        clear hw8 hb8
        refine (HX.out.1 _).mono ?_
        rintro e w9 ⟨rfl, hb9⟩
        have H9 := Lib.hid (And.intro (H8.out.1.all hb9) (And.intro (H8.out.2.1.all hb9) (And.intro (H8.out.2.2.1.all hb9) (And.intro (H8.out.2.2.2.1.all hb9) (bthen H8.out.2.2.2.2 hb9)))))
        clear hb9
        obtain ⟨p0, p1, _, _, p4⟩ := H9.out.2.1
        obtain ⟨q0, q1, _, _, q4⟩ := H9.out.2.2.1
        go_upto_region 16 with fail
        go_region_held3 (fun w' => w'.cell? ⟨w.heap.size, 1, none⟩ = some (.int .i64 (b : Nat)) ∧ w'.cell? ⟨w.heap.size + 1, 1, none⟩ = some (.int .i64 (c : Nat)) ∧ w.heap.size < w'.heap.size ∧ w.heap.size + 1 < w'.heap.size)
          ((repeat' refine And.intro ?_ ?_) <;> first | (go_keep; done) | (go_keep; omega))
          (first
            | (go_at_call 102; refine (kept3_of (b0 := w.heap.size) (b1 := w.heap.size + 1) (b2 := w.heap.size + 1) (HX.out.2.1 _) ?_ ?_ ?_).mono ?_; (first | omega | (simp [*]; done) | (simp [*]; omega)); (first | omega | (simp [*]; done) | (simp [*]; omega)); (first | omega | (simp [*]; done) | (simp [*]; omega)); rintro e wA ⟨rfl, hY1, s0, s1, s2, s3, s4, s5, s6⟩)
            | (go_at_call 101; refine (kept3_of (b0 := w.heap.size) (b1 := w.heap.size + 1) (b2 := w.heap.size + 1) (HX.out.2.2 _) ?_ ?_ ?_).mono ?_; (first | omega | (simp [*]; done) | (simp [*]; omega)); (first | omega | (simp [*]; done) | (simp [*]; omega)); (first | omega | (simp [*]; done) | (simp [*]; omega)); rintro e wB ⟨rfl, hY2, u0, u1, u2, u3, u4, u5, u6⟩))
        have hb16 : Below w9.heap.size w9 wB := bthen (bthen (Below.refl _ w9).drew hY1.out) hY2.out
        have H16 := Lib.hid (And.intro (H9.out.1.all hb16) (And.intro (H9.out.2.1.all hb16) (And.intro (H9.out.2.2.1.all hb16) (And.intro (H9.out.2.2.2.1.all hb16) (bthen H9.out.2.2.2.2 hb16)))))
        clear hb16 hY1 hY2 s0 s1 s2 s3 s4 s5 s6 u0 u1 u2 u3 u4 u5 u6 p0 p1 p4 q0 q1 q4
        obtain ⟨g0, g1, g2, g3, g4'⟩ := H16.out.2.2.2.1
        cases ok1 with
        | false =>
          have hno : ¬ E ≤ 1000000000000000000 := by have := HK.out.1; simpa using this.symm
          have HNo := Lib.hid hno
          clear hno
          go_wp2_with fail
          refine bodyPost_ret (v := .tuple #[.agg #[.int .i64 0, .int .i64 0], .bool false]) (by simp [results, Tryz.results100, go_sem, *]) rfl ⟨by rw [fa_no HK.out.2.2.2.2.1.1 HK.out.2.2.2.2.1.2 (fun h => HNo.out h.1)], ?_⟩
          exact (H16.out.2.2.2.2.setCell (p := ⟨w.heap.size + 1 + 1, 0, none⟩) (by show w.heap.size ≤ w.heap.size + 1 + 1; omega) _).setCell (p := ⟨w.heap.size + 1 + 1, 1, none⟩) (by show w.heap.size ≤ w.heap.size + 1 + 1; omega) _
        | true =>
          have hyes : E ≤ 1000000000000000000 := by have := HK.out.1; simpa using this.symm
          obtain rfl : n1 = ((E : Nat) : Int) := HK.out.2.1 rfl
          cases ok2 with
          | false =>
            have hno : ¬ K ≤ 1000000000000000000 := by have := HK.out.2.2.1; simpa using this.symm
            have HNo := Lib.hid hno
            clear hno
            go_wp2_with fail
            refine bodyPost_ret (v := .tuple #[.agg #[.int .i64 0, .int .i64 0], .bool false]) (by simp [results, Tryz.results100, go_sem, *]) rfl ⟨by rw [fa_no HK.out.2.2.2.2.1.1 HK.out.2.2.2.2.1.2 (fun h => HNo.out h.2)], ?_⟩
            exact (H16.out.2.2.2.2.setCell (p := ⟨w.heap.size + 1 + 1, 0, none⟩) (by show w.heap.size ≤ w.heap.size + 1 + 1; omega) _).setCell (p := ⟨w.heap.size + 1 + 1, 1, none⟩) (by show w.heap.size ≤ w.heap.size + 1 + 1; omega) _
          | true =>
            have hyes2 : K ≤ 1000000000000000000 := by have := HK.out.2.2.1; simpa using this.symm
            obtain rfl : n2 = ((K : Nat) : Int) := HK.out.2.2.2.1 rfl
            have HV := Lib.hid (fa_yes HK.out.2.2.2.2.1.1 HK.out.2.2.2.2.1.2 hyes hyes2)
            have hwE : IntKind.i64.wrap (-(E : Int)) = -(E : Int) := IntWalk.i64_in _ (by omega)
            have HEK := Lib.hid HK.out.2.2.2.2.2
            by_cases hE0 : E = 0
            · have hK1 := HEK.out hE0
              subst hE0
              subst hK1
              cases mn with
              | true =>
                go_wp2_with fail
                refine bodyPost_ret (v := .tuple #[.agg #[.int .i64 0, .int .i64 1], .bool true]) (by simp [results, Tryz.results100, go_sem, *]) rfl ⟨by rw [HV.out]; rfl, ?_⟩
                exact (H16.out.2.2.2.2.setCell (p := ⟨w.heap.size + 1 + 1, 0, none⟩) (by show w.heap.size ≤ w.heap.size + 1 + 1; omega) _).setCell (p := ⟨w.heap.size + 1 + 1, 1, none⟩) (by show w.heap.size ≤ w.heap.size + 1 + 1; omega) _
              | false =>
                go_wp2_with fail
                refine bodyPost_ret (v := .tuple #[.agg #[.int .i64 0, .int .i64 1], .bool true]) (by simp [results, Tryz.results100, go_sem, *]) rfl ⟨by rw [HV.out]; rfl, ?_⟩
                exact (H16.out.2.2.2.2.setCell (p := ⟨w.heap.size + 1 + 1, 0, none⟩) (by show w.heap.size ≤ w.heap.size + 1 + 1; omega) _).setCell (p := ⟨w.heap.size + 1 + 1, 1, none⟩) (by show w.heap.size ≤ w.heap.size + 1 + 1; omega) _
            · have hEi : ¬ (E : Int) = 0 := by omega
              have hEb : ((E : Int) == 0) = false := by rw [beq_eq_false_iff_ne]; exact hEi
              have hEn : (-(E : Int) == 0) = false := by rw [beq_eq_false_iff_ne]; omega
              cases mn with
              | true =>
                go_wp2_with fail
                refine bodyPost_ret (v := .tuple #[.agg #[.int .i64 (-(E : Int)), .int .i64 (K : Int)], .bool true]) (by simp [results, Tryz.results100, go_sem, *]) rfl ⟨by rw [HV.out]; rfl, ?_⟩
                exact (H16.out.2.2.2.2.setCell (p := ⟨w.heap.size + 1 + 1, 0, none⟩) (by show w.heap.size ≤ w.heap.size + 1 + 1; omega) _).setCell (p := ⟨w.heap.size + 1 + 1, 1, none⟩) (by show w.heap.size ≤ w.heap.size + 1 + 1; omega) _
              | false =>
                go_wp2_with fail
                refine bodyPost_ret (v := .tuple #[.agg #[.int .i64 (E : Int), .int .i64 (K : Int)], .bool true]) (by simp [results, Tryz.results100, go_sem, *]) rfl ⟨by rw [HV.out]; rfl, ?_⟩
                exact (H16.out.2.2.2.2.setCell (p := ⟨w.heap.size + 1 + 1, 0, none⟩) (by show w.heap.size ≤ w.heap.size + 1 + 1; omega) _).setCell (p := ⟨w.heap.size + 1 + 1, 1, none⟩) (by show w.heap.size ≤ w.heap.size + 1 + 1; omega) _
end Go.Proofs.YtaneocedklnajaaGreat
