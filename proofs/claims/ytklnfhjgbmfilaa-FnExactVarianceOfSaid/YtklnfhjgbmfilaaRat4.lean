import Derived.Test.YtklnfhjgbmfilaaRat3
/- Ratios: the quotient, the opposite. Condition: the digits' lengths stay below 2 to the power of 27. -/
namespace Go.Proofs.Ytklnfhjgbmfilaa
open Go.RowKit
set_option linter.unusedVariables false

theorem opposite_any (s : Bool) (a1 a2 : Option Addr) (l1 l2 c1 c2 : Nat) (w : World) : Calls Try.prog 122 #[.agg #[.bool s, .slice a1 l1 c1, .slice a2 l2 c2]] w fun e w' => e = .returned (.agg #[.bool (!s && decide (0 < l1)), .slice a1 l1 c1, .slice a2 l2 c2]) ∧ Below w.heap.size w w' := by
  cases s with
  | true =>
    go_enter Try.func122, Try.ntmps122
    go_wp2_with fail
    refine bodyPost_ret (v := .agg #[.bool false, .slice a1 l1 c1, .slice a2 l2 c2]) (by simp [results, Try.results122, go_sem, *]) rfl ⟨rfl, ?_⟩
    exact ((Below.refl _ w).alloc (Nat.le_refl _) _).alloc (by simp) _
  | false =>
    by_cases h : 0 < l1
    · have hl : (0:Int) < (l1:Int) := by omega
      rw [decide_eq_true h]
      go_enter Try.func122, Try.ntmps122
      go_wp2_with fail
      refine bodyPost_ret (v := .agg #[.bool true, .slice a1 l1 c1, .slice a2 l2 c2]) (by simp [results, Try.results122, go_sem, *]) rfl ⟨rfl, ?_⟩
      exact ((Below.refl _ w).alloc (Nat.le_refl _) _).alloc (by simp) _
    · obtain rfl : l1 = 0 := by omega
      go_enter Try.func122, Try.ntmps122
      go_wp2_with fail
      refine bodyPost_ret (v := .agg #[.bool false, .slice a1 0 c1, .slice a2 l2 c2]) (by simp [results, Try.results122, go_sem, *]) rfl ⟨rfl, ?_⟩
      exact ((Below.refl _ w).alloc (Nat.le_refl _) _).alloc (by simp) _
end Go.Proofs.Ytklnfhjgbmfilaa
