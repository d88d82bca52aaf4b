import Derived.Test.YtgfkaldndaepfaaDoorNear
/- The greatest number of a spectrum and where it stands: the reference's walk, and the laws FnExactNearestSum, FnExactNonlinearityOf, FnExactBalanceOf. Condition: the text is shorter than the model's greatest length. -/
namespace Go.Proofs.YtgfkaldndaepfaaDoor
open Go.RowKit
set_option linter.unusedVariables false

/-- A call's answer: a number, and whether there is one. -/
def RetVal (w : World) (ok : Bool) (z : Int) (e : Ending) (w' : World) : Prop := e = .returned (.tuple #[.int .i64 z, .bool ok]) ∧ Below w.heap.size w w'
def RetVal2 (w : World) (ok : Bool) (x z : Int) (e : Ending) (w' : World) : Prop := e = .returned (.tuple #[.int .i64 x, .int .i64 z, .bool ok]) ∧ Below w.heap.size w w'
def tabV (s : ByteArray) (z : Int) : Int := if isT s then z else 0
end Go.Proofs.YtgfkaldndaepfaaDoor
