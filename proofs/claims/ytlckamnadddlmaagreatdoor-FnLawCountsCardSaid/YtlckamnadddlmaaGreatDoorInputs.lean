import Derived.Test.YtlckamnadddlmaaGreatDoorTable
/- The inputs of a table; the law FnExactInputsOf. -/
namespace Go.Proofs.YtlckamnadddlmaaGreatDoor
open Go.RowKit
set_option linter.unusedVariables false

theorem l00Max_any (a b : Int) (w : World) : Calls Tryz.prog 55 #[.int .i64 a, .int .i64 b] w fun e w' => e = .returned (.int .i64 (if b < a then a else b)) ∧ w = w' := by
  by_cases h : b < a
  · rw [if_pos h]
    go_enter Tryz.func55, Tryz.ntmps55
    go_wp2
    go_ret
    exact ⟨rfl, rfl⟩
  · rw [if_neg h]
    go_enter Tryz.func55, Tryz.ntmps55
    go_wp2
    go_ret
    exact ⟨rfl, rfl⟩
def inpV (s : ByteArray) : Int := if isT s then inpI s else 0
def RetI (w : World) (s : ByteArray) (e : Ending) (w' : World) : Prop := e = .returned (.tuple #[.int .i64 (inpV s), .bool (isT s)]) ∧ Below w.heap.size w w'
end Go.Proofs.YtlckamnadddlmaaGreatDoor
