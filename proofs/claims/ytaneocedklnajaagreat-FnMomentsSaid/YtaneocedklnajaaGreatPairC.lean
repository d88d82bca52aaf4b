import Derived.Test.YtaneocedklnajaaGreatWideX
import Derived.Test.YtaneocedklnajaaGreatFrac
/- The cost of drawing by pairs. No condition. -/
namespace Go.Proofs.YtaneocedklnajaaGreat
open Go.RowKit
set_option linter.unusedVariables false

theorem dlen8 {n : Nat} (h : n < 2 ^ 256) : (digs n).length ≤ 8 := by
  refine digs_len_le ?_
  rw [bse_eq]
  exact Nat.lt_of_lt_of_le h (by decide)
/-- A call's answer: a ratio that is not negative, with three older blocks kept. -/
def RetP (w : World) (n d : Nat) (b0 b1 b : Nat) (e : Ending) (w' : World) : Prop := ∃ a1 c1 l1 a2 c2 l2, e = .returned (.agg #[.bool false, .slice a1 l1 c1, .slice a2 l2 c2]) ∧ Hid (RawV w' a1 a2 l1 l2 n d ∧ Below w.heap.size w w') ∧
      (∀ o, w'.cell? ⟨b0, o, none⟩ = w.cell? ⟨b0, o, none⟩) ∧ (∀ o, w'.cell? ⟨b1, o, none⟩ = w.cell? ⟨b1, o, none⟩) ∧ (∀ o, w'.cell? ⟨b, o, none⟩ = w.cell? ⟨b, o, none⟩) ∧ (∀ o, w'.frozen? ⟨b, o, none⟩ = w.frozen? ⟨b, o, none⟩) ∧ b0 < w'.heap.size ∧ b1 < w'.heap.size ∧ b < w'.heap.size
theorem retP_of {P : Program} {f : Nat} {args : Array Value} {w : World} {r : Rat} {n d b0 b1 b : Nat} (hn : r.num = (n : Int)) (hd : r.den = d) (h : Calls P f args w (RetR w r)) (q0 : b0 < w.heap.size) (q1 : b1 < w.heap.size) (q2 : b < w.heap.size) : Calls P f args w (RetP w n d b0 b1 b) := by
  refine h.mono ?_
  rintro e w' ⟨sg, a1, c1, l1, a2, c2, l2, rfl, hv, hb, hs⟩
  rw [hn, hd, Int.natAbs_natCast] at hv
  obtain rfl : sg = false := by rw [hs, hn]; exact decide_eq_false (by omega)
  exact ⟨a1, c1, l1, a2, c2, l2, rfl, Lib.hid ⟨hv, hb⟩, fun o => hb.cell (p := ⟨b0, o, none⟩) q0, fun o => hb.cell (p := ⟨b1, o, none⟩) q1, fun o => hb.cell (p := ⟨b, o, none⟩) q2, fun o => hb.frozen (p := ⟨b, o, none⟩) q2, Nat.lt_of_lt_of_le q0 hb.size, Nat.lt_of_lt_of_le q1 hb.size, Nat.lt_of_lt_of_le q2 hb.size⟩
theorem retR_raw {w w' : World} {neg : Bool} {e : Ending} {r : Rat} {n d : Nat} (hn : r.num.natAbs = n) (hd : r.den = d) (hs : neg = decide (r.num < 0)) (h : RetRaw w neg n d e w') : RetR w r e w' := by
  obtain ⟨a1, c1, a2, c2, rfl, h1, h2, hb⟩ := h
  exact ⟨neg, a1, c1, _, a2, c2, _, rfl, by rw [hn, hd]; exact ⟨rfl, rfl, h1, h2⟩, hb, hs⟩
theorem whole_one (w : World) : Calls Tryz.prog 32 #[.int .i64 1] w (RetR w 1) :=
  (whole_any 1 w (by omega) (by omega)).mono fun e w' h => retR_raw (r := 1) rfl rfl rfl h
theorem ratioOf_rat (N D : Nat) (w : World) (h1 : N < 9223372036854775808) (h2 : D < 9223372036854775808) (hD : 0 < D) (hg : Nat.gcd N D = 1) : Calls Tryz.prog 34 #[.agg #[.int .i64 (N : Nat), .int .i64 (D : Nat)]] w (RetR w (mkRat (N : Int) D)) := by
  obtain ⟨e1, e2⟩ := rat_of (p := (N : Int)) (q := D) (Nat.ne_of_gt hD) (by rw [Int.natAbs_natCast]; exact hg)
  exact (ratioOf_any (N : Int) D w (by omega) (by omega) h2).mono fun e w' h => retR_raw (by rw [e1]) e2 (by rw [e1]) h
theorem fraction_raw (r : Rat) (a1 a2 : Option Addr) (c1 c2 l1 l2 n d : Nat) (w : World) (hn : r.num = (n : Int)) (hd : r.den = d) (h : RawV w a1 a2 l1 l2 n d) (hb1 : l1 < 536870912) (hb2 : l2 < 536870912) :
    Calls Tryz.prog 37 #[.agg #[.bool false, .slice a1 l1 c1, .slice a2 l2 c2]] w fun e w' => e = .returned (fracV r) ∧ Below w.heap.size w w' := by
  have e1 : r.num.natAbs = n := by rw [hn]; simp
  obtain ⟨rfl, rfl, h1, h2⟩ := h
  have := fraction_any r a1 a2 c1 c2 w (by rw [e1]; exact h1) (by rw [hd]; exact h2) (by rw [e1]; exact hb1) (by rw [hd]; exact hb2)
  rw [e1, hd, show decide (r.num < 0) = false by rw [hn]; exact decide_eq_false (by omega)] at this
  exact this
/-- The numbers of a cost by pairs. -/
structure PcN (N M D : Nat) : Prop where
  sum : N + M = D
  n0 : 0 < N
  m0 : 0 < M
  d1 : D ≤ 1000000000000000000
  g : Nat.gcd N D = 1
theorem PcN.d0 {N M D : Nat} (h : PcN N M D) : 0 < D := by have := h.sum; have := h.n0; omega
theorem PcN.g2 {N M D : Nat} (h : PcN N M D) : Nat.gcd M D = 1 := by
  obtain ⟨rfl, h1, h2, h3, h4⟩ := h
  rw [Nat.gcd_add_self_right, Nat.gcd_comm]
  rwa [Nat.gcd_self_add_right] at h4
theorem PcN.one {N M D : Nat} (h : PcN N M D) : (mkRat (sgn false (1 * D) - sgn false (N * 1)) (1 * D)).num = (M : Int) ∧ (mkRat (sgn false (1 * D) - sgn false (N * 1)) (1 * D)).den = D := by
  have e : sgn false (1 * D) - sgn false (N * 1) = (M : Int) := by simp only [sgn]; have := h.sum; simp; omega
  rw [e, Nat.one_mul]
  exact rat_of (Nat.ne_of_gt h.d0) (by rw [Int.natAbs_natCast]; exact h.g2)
theorem PcN.cop {N M D : Nat} (h : PcN N M D) : Nat.gcd (N * M) (D * D) = 1 :=
  Nat.Coprime.mul_left (Nat.Coprime.mul_right h.g h.g) (Nat.Coprime.mul_right h.g2 h.g2)
theorem PcN.two {N M D : Nat} (h : PcN N M D) : (mkRat (sgn (false != false) (N * M)) (D * D)).num = ((N * M : Nat) : Int) ∧ (mkRat (sgn (false != false) (N * M)) (D * D)).den = D * D := by
  have e : sgn (false != false) (N * M) = ((N * M : Nat) : Int) := rfl
  rw [e]
  exact rat_of (Nat.ne_of_gt (Nat.mul_pos h.d0 h.d0)) (by rw [Int.natAbs_natCast]; exact h.cop)
def pcR (N M D : Nat) : Rat := mkRat (sgn (false != false) (1 * (D * D))) (1 * (N * M))
theorem PcN.three {N M D : Nat} (h : PcN N M D) : (pcR N M D).num = ((D * D : Nat) : Int) ∧ (pcR N M D).den = N * M := by
  have e : sgn (false != false) (1 * (D * D)) = ((D * D : Nat) : Int) := by rw [Nat.one_mul]; rfl
  unfold pcR
  rw [e, Nat.one_mul]
  exact rat_of (Nat.ne_of_gt (Nat.mul_pos h.n0 h.m0)) (by rw [Int.natAbs_natCast, Nat.gcd_comm]; exact h.cop)
theorem PcN.mul {N M D : Nat} (h : PcN N M D) : mkRat (D : Int) N * mkRat (D : Int) M = pcR N M D := by
  unfold pcR
  rw [Rat.mkRat_mul_mkRat, Nat.one_mul, Nat.one_mul]
  rfl
/-- What both costs are. -/
def pcV (n d : Int) : Value := if (vF n d && inR n 1 (d - 1)) = true then fracV (pcR n.toNat (d - n).toNat d.toNat) else .tuple #[.agg #[.int .i64 0, .int .i64 0], .bool false]
theorem pcV_form (n d : Int) : ∃ p q b, pcV n d = .tuple #[.agg #[.int .i64 p, .int .i64 q], .bool b] := by
  unfold pcV fracV
  split
  · split <;> exact ⟨_, _, _, rfl⟩
  · exact ⟨_, _, _, rfl⟩
theorem pcN_of {n d : Int} (hv : vF n d = true) (hr : inR n 1 (d - 1) = true) : ∃ N M D : Nat, n = (N : Int) ∧ d = (D : Int) ∧ PcN N M D ∧ pcV n d = fracV (pcR N M D) := by
  obtain ⟨h1, h2, h3⟩ := vF_iff.1 hv
  have hr2 := hr
  simp only [inR, Bool.and_eq_true, decide_eq_true_eq] at hr2
  obtain ⟨N, rfl⟩ := Int.eq_ofNat_of_zero_le (show 0 ≤ n by omega)
  obtain ⟨D, rfl⟩ := Int.eq_ofNat_of_zero_le (show 0 ≤ d by omega)
  refine ⟨N, D - N, D, rfl, rfl, ⟨by omega, by omega, by omega, by omega, ?_⟩, ?_⟩
  · simpa using h3
  · unfold pcV
    rw [hv, hr, if_pos (by rfl), show ((N : Int)).toNat = N from rfl, show ((D : Int)).toNat = D from rfl, show ((D : Int) - (N : Int)).toNat = D - N from by omega]
end Go.Proofs.YtaneocedklnajaaGreat
