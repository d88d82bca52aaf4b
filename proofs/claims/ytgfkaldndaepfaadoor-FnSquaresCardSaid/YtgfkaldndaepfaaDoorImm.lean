import Derived.Test.YtgfkaldndaepfaaDoorWeight
/- The correlation immunity of a table: the program's walk, the reference's, and the law FnExactImmunityOf. Condition: the text is shorter than the model's greatest length. -/
namespace Go.Proofs.YtgfkaldndaepfaaDoor
open Go.RowKit
set_option linter.unusedVariables false

/-- The least weight, and b0, of the places from 1 on below m whose number is not 0. -/
def imF (L : List Int) (b0 : Nat) : Nat → Nat
  | 0 => b0
  | m + 1 => if 0 < m ∧ L.getD m 0 ≠ 0 then min (imF L b0 m) (pop6 m) else imF L b0 m
def imV (s : ByteArray) : Int := ((imF (spS' s) ((inpI s).toNat + 1) s.size : Nat) : Int) - 1
theorem inpI_some {s : ByteArray} {k : Nat} (h : inpN s = some k) : inpI s = k := by unfold inpI; rw [h]
end Go.Proofs.YtgfkaldndaepfaaDoor
