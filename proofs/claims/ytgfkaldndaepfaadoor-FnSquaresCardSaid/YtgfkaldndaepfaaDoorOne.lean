import Derived.Test.YtgfkaldndaepfaaDoorBase
/- The small helpers: ranges, lengths, copies and comparisons of slices of int64. -/
namespace Go.Proofs.YtgfkaldndaepfaaDoor
open Go.RowKit
set_option linter.unusedVariables false

def inR (n lo hi : Int) : Bool := decide (lo ≤ n) && decide (n ≤ hi)

theorem inRange_any (n lo hi : Int) (w : World) :
    Calls Tryd.prog 34 #[.int .i64 n, .int .i64 lo, .int .i64 hi] w fun e w' => e = .returned (.bool (inR n lo hi)) ∧ w = w' := by
  by_cases h : lo ≤ n <;> by_cases h2 : n ≤ hi
  all_goals
    go_enter Tryd.func34, Tryd.ntmps34
    go_wp2
    go_ret
    exact ⟨by simp [inR, h, h2], rfl⟩


end Go.Proofs.YtgfkaldndaepfaaDoor
