import Derived.Test.YtaneocedklnajaaGreatRatX
import Derived.Test.YtaneocedklnajaaGreatBitsX
/- The cost of drawing by rejection: the law FnExactRejectCost. No condition. -/
namespace Go.Proofs.YtaneocedklnajaaGreat
open Go.RowKit
set_option linter.unusedVariables false

/-- The number of bits that are drawn for a number below n. -/
def WidthIs (n : Int) (k : Nat) : Prop := k ≤ 20 ∧ n ≤ (2 : Int) ^ k ∧ (k = 0 ∨ (2 : Int) ^ (k - 1) < n)
theorem width_exists (n : Int) (h2 : n ≤ 1000000) : ∃ k, WidthIs n k := by
  have key : ∀ m : Nat, n ≤ (2 : Int) ^ m → m ≤ 20 → ∃ k, WidthIs n k := by
    intro m
    induction m with
    | zero => intro h _; exact ⟨0, by omega, h, Or.inl rfl⟩
    | succ m ih =>
      intro h hm
      by_cases hc : n ≤ (2 : Int) ^ m
      · exact ih hc (by omega)
      · exact ⟨m + 1, hm, h, Or.inr (by simpa using hc)⟩
  exact key 20 (by have : (2 : Int) ^ 20 = 1048576 := by decide
                   omega) (by omega)

set_option maxHeartbeats 400000 in
theorem eqFraction_same (p q : Int) (w : World) : Calls Tryz.prog 83 #[.agg #[.int .i64 p, .int .i64 q], .agg #[.int .i64 p, .int .i64 q]] w fun e w' => e = .returned (.bool true) ∧ Below w.heap.size w w' := by
  go_enter Tryz.func83, Tryz.ntmps83
  go_wp2
  go_ret
  exact ⟨rfl, ((Below.refl _ w).alloc (Nat.le_refl _) _).alloc (by simp) _⟩
/-- What both costs are. -/
def costR (n : Int) (k : Nat) : Rat := mkRat ((k : Int) * (2 : Int) ^ k) n.toNat
def costV (n : Int) (k : Nat) : Value := if inR n 1 1000000 then .tuple #[.agg #[.int .i64 (costR n k).num, .int .i64 ((costR n k).den : Nat)], .bool true] else .tuple #[.agg #[.int .i64 0, .int .i64 0], .bool false]
theorem cost_num {k : Nat} (hk : k ≤ 20) : ∃ M : Nat, (k : Int) * (2 : Int) ^ k = (M : Int) ∧ M ≤ 20971520 := by
  refine ⟨k * 2 ^ k, by simp, ?_⟩
  have : 2 ^ k ≤ 2 ^ 20 := Nat.pow_le_pow_right (by omega) hk
  calc k * 2 ^ k ≤ 20 * 2 ^ 20 := Nat.mul_le_mul hk this
    _ = 20971520 := by decide
theorem fit_small {p : Int} {q : Nat} (hq : 0 < q) (h1 : p.natAbs ≤ 1000000000000000000) (h2 : q ≤ 1000000000000000000) : fitR (mkRat p q) = true := by
  unfold fitR
  rw [mk_abs (Nat.ne_of_gt hq), mk_den (Nat.ne_of_gt hq)]
  have e1 : p.natAbs / p.natAbs.gcd q ≤ p.natAbs := Nat.div_le_self _ _
  have e2 : q / p.natAbs.gcd q ≤ q := Nat.div_le_self _ _
  rw [decide_eq_true (by omega), decide_eq_true (by omega)]
  rfl
theorem num_den_small {p : Int} {q : Nat} (hq : 0 < q) (h1 : p.natAbs < 18446744073709551616) (h2 : q < 18446744073709551616) : (digs (mkRat p q).num.natAbs).length < 536870912 ∧ (digs (mkRat p q).den).length < 536870912 := by
  rw [mk_abs (Nat.ne_of_gt hq), mk_den (Nat.ne_of_gt hq)]
  have e1 : p.natAbs / p.natAbs.gcd q ≤ p.natAbs := Nat.div_le_self _ _
  have e2 : q / p.natAbs.gcd q ≤ q := Nat.div_le_self _ _
  exact ⟨dl63 (by omega), dl63 (by omega)⟩
theorem costV_form (n : Int) (k : Nat) : ∃ p q b, costV n k = .tuple #[.agg #[.int .i64 p, .int .i64 q], .bool b] := by
  unfold costV
  split
  · exact ⟨_, _, _, rfl⟩
  · exact ⟨_, _, _, rfl⟩
end Go.Proofs.YtaneocedklnajaaGreat
