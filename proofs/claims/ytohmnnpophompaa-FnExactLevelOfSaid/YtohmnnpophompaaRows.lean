/-
  No cell of these rows narrows 'for every input' (looked for: loops, veiled, ifaces, maps, wideKeys, modest, calm, conditions, laid).
  DERIVED. THE GIVEN ROWS OF THIS SEAT. 10 by the template 'for every input the law returns true; each argument reads behind the call as it read before'; 0 by the template 'total and deterministic' (their statements: YtohmnnpophompaaTotals.lean).
  GIVEN WITH THE SEED: the statements are not yours to turn. If you find one false, say at which input.
  Laid BY PROGRAM, IN A SANDBOX (cutbox-rows.mjs): the forced cells as the released guide's own fill.sh prints them over the translation 68670c8b933172fa… (all of the seat's roots in one cut). By AI agents, Wed Nov 11 2026. No macro, syntax, notation, axiom, sorry.
-/
import Derived.Test.YtohmnnpophompaaChecked
import GoSem.Claim
import GoSem.ClaimJoined
import GoSem.ClaimMapViews
import Derived.JoinedTies
import Derived.KernelRfl
namespace Go.Proofs.Ytohmnnpophompaa
/- THE CELL 'sum', in the pinned program and in every row, IS THE sha256 OF THE DUMP (.gsa) THAT YtohmnnpophompaaProg.lean LOADS. Nothing in Lean hashes anything: it is a label: what it is worth is what the hold of that sum in a sandbox is worth. -/
noncomputable def Try.pinned : Pinned := { name := "ytohmnnpophompaa", sum := "68670c8b933172fae18cde2b72c4978137138e37c75c4b3a39d5264a3beb0ae7", checked := Try.checked }
namespace Rows
def none {H : Type} : Left H := { results := [], args := [] }

/-- 'laws.FnExactShortestPoint': WHATEVER THE INPUT: true; the input reads as it did. -/
def fnExactShortestPointSpec : ChangeSpec := { name := "fnExactShortestPoint", fn := fun _ => fun
  | [d1, d2] => { results := [.lit (.bool true)], args := [d1, d2] }
  | _ => none }
def fnExactShortestPointRow : OpenClaim := { program := "ytohmnnpophompaa", sum := "68670c8b933172fae18cde2b72c4978137138e37c75c4b3a39d5264a3beb0ae7", func := "loop.example/g01121/laws.FnExactShortestPoint", spec := "fnExactShortestPoint", unfollowed := true, recurses := true, apart := false }
def FnExactShortestPointSaid : Prop := fnExactShortestPointRow.holds Try.pinned (OpenSpec.ofChange fnExactShortestPointSpec)

/-- ITS FALSE NEIGHBOUR: 'it returns false'. Refute it at one input. -/
def fnExactShortestPointWrong : ChangeSpec := { name := "fnExactShortestPoint", fn := fun _ => fun
  | [d1, d2] => { results := [.lit (.bool false)], args := [d1, d2] }
  | _ => none }
def FnExactShortestPointWrongFalsely : Prop := fnExactShortestPointRow.holds Try.pinned (OpenSpec.ofChange fnExactShortestPointWrong)

/-- 'laws.FnExactShortestWave': WHATEVER THE INPUT: true; the input reads as it did. -/
def fnExactShortestWaveSpec : ChangeSpec := { name := "fnExactShortestWave", fn := fun _ => fun
  | [d1, d2] => { results := [.lit (.bool true)], args := [d1, d2] }
  | _ => none }
def fnExactShortestWaveRow : OpenClaim := { program := "ytohmnnpophompaa", sum := "68670c8b933172fae18cde2b72c4978137138e37c75c4b3a39d5264a3beb0ae7", func := "loop.example/g01121/laws.FnExactShortestWave", spec := "fnExactShortestWave", unfollowed := true, recurses := true, apart := false }
def FnExactShortestWaveSaid : Prop := fnExactShortestWaveRow.holds Try.pinned (OpenSpec.ofChange fnExactShortestWaveSpec)

/-- ITS FALSE NEIGHBOUR: 'it returns false'. Refute it at one input. -/
def fnExactShortestWaveWrong : ChangeSpec := { name := "fnExactShortestWave", fn := fun _ => fun
  | [d1, d2] => { results := [.lit (.bool false)], args := [d1, d2] }
  | _ => none }
def FnExactShortestWaveWrongFalsely : Prop := fnExactShortestWaveRow.holds Try.pinned (OpenSpec.ofChange fnExactShortestWaveWrong)

/-- 'laws.FnExactDiceCost': WHATEVER THE INPUT: true; the input reads as it did. -/
def fnExactDiceCostSpec : ChangeSpec := { name := "fnExactDiceCost", fn := fun _ => fun
  | [d] => { results := [.lit (.bool true)], args := [d] }
  | _ => none }
def fnExactDiceCostRow : OpenClaim := { program := "ytohmnnpophompaa", sum := "68670c8b933172fae18cde2b72c4978137138e37c75c4b3a39d5264a3beb0ae7", func := "loop.example/g01121/laws.FnExactDiceCost", spec := "fnExactDiceCost", unfollowed := true, recurses := true, apart := false }
def FnExactDiceCostSaid : Prop := fnExactDiceCostRow.holds Try.pinned (OpenSpec.ofChange fnExactDiceCostSpec)

/-- ITS FALSE NEIGHBOUR: 'it returns false'. Refute it at one input. -/
def fnExactDiceCostWrong : ChangeSpec := { name := "fnExactDiceCost", fn := fun _ => fun
  | [d] => { results := [.lit (.bool false)], args := [d] }
  | _ => none }
def FnExactDiceCostWrongFalsely : Prop := fnExactDiceCostRow.holds Try.pinned (OpenSpec.ofChange fnExactDiceCostWrong)

/-- 'laws.FnDifferent': WHATEVER THE INPUT: true; the input reads as it did. -/
def fnDifferentSpec : ChangeSpec := { name := "fnDifferent", fn := fun _ => fun
  | [d1, d2] => { results := [.lit (.bool true)], args := [d1, d2] }
  | _ => none }
def fnDifferentRow : OpenClaim := { program := "ytohmnnpophompaa", sum := "68670c8b933172fae18cde2b72c4978137138e37c75c4b3a39d5264a3beb0ae7", func := "loop.example/g01121/laws.FnDifferent", spec := "fnDifferent", unfollowed := true, recurses := true, apart := false }
def FnDifferentSaid : Prop := fnDifferentRow.holds Try.pinned (OpenSpec.ofChange fnDifferentSpec)

/-- ITS FALSE NEIGHBOUR: 'it returns false'. Refute it at one input. -/
def fnDifferentWrong : ChangeSpec := { name := "fnDifferent", fn := fun _ => fun
  | [d1, d2] => { results := [.lit (.bool false)], args := [d1, d2] }
  | _ => none }
def FnDifferentWrongFalsely : Prop := fnDifferentRow.holds Try.pinned (OpenSpec.ofChange fnDifferentWrong)

/-- 'laws.FnExactValidLaw': WHATEVER THE INPUT: true; the input reads as it did. -/
def fnExactValidLawSpec : ChangeSpec := { name := "fnExactValidLaw", fn := fun _ => fun
  | [d] => { results := [.lit (.bool true)], args := [d] }
  | _ => none }
def fnExactValidLawRow : OpenClaim := { program := "ytohmnnpophompaa", sum := "68670c8b933172fae18cde2b72c4978137138e37c75c4b3a39d5264a3beb0ae7", func := "loop.example/g01121/laws.FnExactValidLaw", spec := "fnExactValidLaw", unfollowed := true, recurses := true, apart := false }
def FnExactValidLawSaid : Prop := fnExactValidLawRow.holds Try.pinned (OpenSpec.ofChange fnExactValidLawSpec)

/-- ITS FALSE NEIGHBOUR: 'it returns false'. Refute it at one input. -/
def fnExactValidLawWrong : ChangeSpec := { name := "fnExactValidLaw", fn := fun _ => fun
  | [d] => { results := [.lit (.bool false)], args := [d] }
  | _ => none }
def FnExactValidLawWrongFalsely : Prop := fnExactValidLawRow.holds Try.pinned (OpenSpec.ofChange fnExactValidLawWrong)

/-- 'laws.FnExactTailOf': WHATEVER THE INPUT: true; the input reads as it did. -/
def fnExactTailOfSpec : ChangeSpec := { name := "fnExactTailOf", fn := fun _ => fun
  | [d1, d2] => { results := [.lit (.bool true)], args := [d1, d2] }
  | _ => none }
def fnExactTailOfRow : OpenClaim := { program := "ytohmnnpophompaa", sum := "68670c8b933172fae18cde2b72c4978137138e37c75c4b3a39d5264a3beb0ae7", func := "loop.example/g01121/laws.FnExactTailOf", spec := "fnExactTailOf", unfollowed := true, recurses := true, apart := false }
def FnExactTailOfSaid : Prop := fnExactTailOfRow.holds Try.pinned (OpenSpec.ofChange fnExactTailOfSpec)

/-- ITS FALSE NEIGHBOUR: 'it returns false'. Refute it at one input. -/
def fnExactTailOfWrong : ChangeSpec := { name := "fnExactTailOf", fn := fun _ => fun
  | [d1, d2] => { results := [.lit (.bool false)], args := [d1, d2] }
  | _ => none }
def FnExactTailOfWrongFalsely : Prop := fnExactTailOfRow.holds Try.pinned (OpenSpec.ofChange fnExactTailOfWrong)

/-- 'laws.FnExactChanceOf': WHATEVER THE INPUT: true; the input reads as it did. -/
def fnExactChanceOfSpec : ChangeSpec := { name := "fnExactChanceOf", fn := fun _ => fun
  | [d1, d2] => { results := [.lit (.bool true)], args := [d1, d2] }
  | _ => none }
def fnExactChanceOfRow : OpenClaim := { program := "ytohmnnpophompaa", sum := "68670c8b933172fae18cde2b72c4978137138e37c75c4b3a39d5264a3beb0ae7", func := "loop.example/g01121/laws.FnExactChanceOf", spec := "fnExactChanceOf", unfollowed := true, recurses := true, apart := false }
def FnExactChanceOfSaid : Prop := fnExactChanceOfRow.holds Try.pinned (OpenSpec.ofChange fnExactChanceOfSpec)

/-- ITS FALSE NEIGHBOUR: 'it returns false'. Refute it at one input. -/
def fnExactChanceOfWrong : ChangeSpec := { name := "fnExactChanceOf", fn := fun _ => fun
  | [d1, d2] => { results := [.lit (.bool false)], args := [d1, d2] }
  | _ => none }
def FnExactChanceOfWrongFalsely : Prop := fnExactChanceOfRow.holds Try.pinned (OpenSpec.ofChange fnExactChanceOfWrong)

/-- 'laws.FnExactMeanOf': WHATEVER THE INPUT: true; the input reads as it did. -/
def fnExactMeanOfSpec : ChangeSpec := { name := "fnExactMeanOf", fn := fun _ => fun
  | [d] => { results := [.lit (.bool true)], args := [d] }
  | _ => none }
def fnExactMeanOfRow : OpenClaim := { program := "ytohmnnpophompaa", sum := "68670c8b933172fae18cde2b72c4978137138e37c75c4b3a39d5264a3beb0ae7", func := "loop.example/g01121/laws.FnExactMeanOf", spec := "fnExactMeanOf", unfollowed := true, recurses := true, apart := false }
def FnExactMeanOfSaid : Prop := fnExactMeanOfRow.holds Try.pinned (OpenSpec.ofChange fnExactMeanOfSpec)

/-- ITS FALSE NEIGHBOUR: 'it returns false'. Refute it at one input. -/
def fnExactMeanOfWrong : ChangeSpec := { name := "fnExactMeanOf", fn := fun _ => fun
  | [d] => { results := [.lit (.bool false)], args := [d] }
  | _ => none }
def FnExactMeanOfWrongFalsely : Prop := fnExactMeanOfRow.holds Try.pinned (OpenSpec.ofChange fnExactMeanOfWrong)

/-- 'laws.FnExactVarianceOf': WHATEVER THE INPUT: true; the input reads as it did. -/
def fnExactVarianceOfSpec : ChangeSpec := { name := "fnExactVarianceOf", fn := fun _ => fun
  | [d] => { results := [.lit (.bool true)], args := [d] }
  | _ => none }
def fnExactVarianceOfRow : OpenClaim := { program := "ytohmnnpophompaa", sum := "68670c8b933172fae18cde2b72c4978137138e37c75c4b3a39d5264a3beb0ae7", func := "loop.example/g01121/laws.FnExactVarianceOf", spec := "fnExactVarianceOf", unfollowed := true, recurses := true, apart := false }
def FnExactVarianceOfSaid : Prop := fnExactVarianceOfRow.holds Try.pinned (OpenSpec.ofChange fnExactVarianceOfSpec)

/-- ITS FALSE NEIGHBOUR: 'it returns false'. Refute it at one input. -/
def fnExactVarianceOfWrong : ChangeSpec := { name := "fnExactVarianceOf", fn := fun _ => fun
  | [d] => { results := [.lit (.bool false)], args := [d] }
  | _ => none }
def FnExactVarianceOfWrongFalsely : Prop := fnExactVarianceOfRow.holds Try.pinned (OpenSpec.ofChange fnExactVarianceOfWrong)

/-- 'laws.FnExactLevelOf': WHATEVER THE INPUT: true; the input reads as it did. -/
def fnExactLevelOfSpec : ChangeSpec := { name := "fnExactLevelOf", fn := fun _ => fun
  | [d1, d2] => { results := [.lit (.bool true)], args := [d1, d2] }
  | _ => none }
def fnExactLevelOfRow : OpenClaim := { program := "ytohmnnpophompaa", sum := "68670c8b933172fae18cde2b72c4978137138e37c75c4b3a39d5264a3beb0ae7", func := "loop.example/g01121/laws.FnExactLevelOf", spec := "fnExactLevelOf", unfollowed := true, recurses := true, apart := false }
def FnExactLevelOfSaid : Prop := fnExactLevelOfRow.holds Try.pinned (OpenSpec.ofChange fnExactLevelOfSpec)

/-- ITS FALSE NEIGHBOUR: 'it returns false'. Refute it at one input. -/
def fnExactLevelOfWrong : ChangeSpec := { name := "fnExactLevelOf", fn := fun _ => fun
  | [d1, d2] => { results := [.lit (.bool false)], args := [d1, d2] }
  | _ => none }
def FnExactLevelOfWrongFalsely : Prop := fnExactLevelOfRow.holds Try.pinned (OpenSpec.ofChange fnExactLevelOfWrong)

/- THE SECOND FORM. 'bulk': how many values and letters a reading holds, each counted each time it is reached (what is shared counts as often as it is met; a slice's spare places count too). A statement '..UptoSaid' is the law's where the arguments, and the package variables that the reading takes, are together of bulk at most 1048576: NARROWER than '..Said'. Prove '..Said' where nothing that the law and all that it calls make is longer than what came in: it says more and counts as full. Else prove '..UptoSaid'. A law counts once. -/
mutual
def uptoBulk {H : Type} : DataW H → Nat
  | .lit (.string bytes) => bytes.length + 1
  | .lit _ => 1
  | .nil => 1
  | .ptr d => uptoBulk d + 1
  | .slice elems spare => uptoBulkAll elems + uptoBulkAll spare + 1
  | .agg parts => uptoBulkAll parts + 1
  | .iface _ d => uptoBulk d + 1
  | .map entries => uptoBulkEntries entries + 1
  | .held _ => 1
def uptoBulkAll {H : Type} : List (DataW H) → Nat
  | [] => 0
  | d :: r => uptoBulk d + uptoBulkAll r
def uptoBulkEntries {H : Type} : List (Lit × DataW H) → Nat
  | [] => 0
  | x :: r => uptoBulkEntry x + uptoBulkEntries r
def uptoBulkEntry {H : Type} : Lit × DataW H → Nat
  | (.string bytes, d) => bytes.length + uptoBulk d + 1
  | (_, d) => uptoBulk d + 1
 end
def uptoSmall : (H : Type) → List (DataW H) → Bool := fun _ ds => decide (uptoBulkAll ds ≤ 1048576)
def OpenSpec.upto (s : _root_.Go.ChangeSpec) : _root_.Go.OpenSpec := { _root_.Go.OpenSpec.ofChange s with cond := some uptoSmall }

/-- 'laws.FnExactShortestPoint', WHERE WHAT IT READS IS OF BULK AT MOST 1048576: true; the input reads as it did. -/
def fnExactShortestPointUptoRow : OpenClaim := { program := "ytohmnnpophompaa", sum := "68670c8b933172fae18cde2b72c4978137138e37c75c4b3a39d5264a3beb0ae7", func := "loop.example/g01121/laws.FnExactShortestPoint", spec := "fnExactShortestPoint", unfollowed := true, recurses := true, apart := false, narrowed := true }
def FnExactShortestPointUptoSaid : Prop := fnExactShortestPointUptoRow.holds Try.pinned (OpenSpec.upto fnExactShortestPointSpec)

/-- 'laws.FnExactShortestWave', WHERE WHAT IT READS IS OF BULK AT MOST 1048576: true; the input reads as it did. -/
def fnExactShortestWaveUptoRow : OpenClaim := { program := "ytohmnnpophompaa", sum := "68670c8b933172fae18cde2b72c4978137138e37c75c4b3a39d5264a3beb0ae7", func := "loop.example/g01121/laws.FnExactShortestWave", spec := "fnExactShortestWave", unfollowed := true, recurses := true, apart := false, narrowed := true }
def FnExactShortestWaveUptoSaid : Prop := fnExactShortestWaveUptoRow.holds Try.pinned (OpenSpec.upto fnExactShortestWaveSpec)

/-- 'laws.FnExactDiceCost', WHERE WHAT IT READS IS OF BULK AT MOST 1048576: true; the input reads as it did. -/
def fnExactDiceCostUptoRow : OpenClaim := { program := "ytohmnnpophompaa", sum := "68670c8b933172fae18cde2b72c4978137138e37c75c4b3a39d5264a3beb0ae7", func := "loop.example/g01121/laws.FnExactDiceCost", spec := "fnExactDiceCost", unfollowed := true, recurses := true, apart := false, narrowed := true }
def FnExactDiceCostUptoSaid : Prop := fnExactDiceCostUptoRow.holds Try.pinned (OpenSpec.upto fnExactDiceCostSpec)

/-- 'laws.FnDifferent', WHERE WHAT IT READS IS OF BULK AT MOST 1048576: true; the input reads as it did. -/
def fnDifferentUptoRow : OpenClaim := { program := "ytohmnnpophompaa", sum := "68670c8b933172fae18cde2b72c4978137138e37c75c4b3a39d5264a3beb0ae7", func := "loop.example/g01121/laws.FnDifferent", spec := "fnDifferent", unfollowed := true, recurses := true, apart := false, narrowed := true }
def FnDifferentUptoSaid : Prop := fnDifferentUptoRow.holds Try.pinned (OpenSpec.upto fnDifferentSpec)

/-- 'laws.FnExactValidLaw', WHERE WHAT IT READS IS OF BULK AT MOST 1048576: true; the input reads as it did. -/
def fnExactValidLawUptoRow : OpenClaim := { program := "ytohmnnpophompaa", sum := "68670c8b933172fae18cde2b72c4978137138e37c75c4b3a39d5264a3beb0ae7", func := "loop.example/g01121/laws.FnExactValidLaw", spec := "fnExactValidLaw", unfollowed := true, recurses := true, apart := false, narrowed := true }
def FnExactValidLawUptoSaid : Prop := fnExactValidLawUptoRow.holds Try.pinned (OpenSpec.upto fnExactValidLawSpec)

/-- 'laws.FnExactTailOf', WHERE WHAT IT READS IS OF BULK AT MOST 1048576: true; the input reads as it did. -/
def fnExactTailOfUptoRow : OpenClaim := { program := "ytohmnnpophompaa", sum := "68670c8b933172fae18cde2b72c4978137138e37c75c4b3a39d5264a3beb0ae7", func := "loop.example/g01121/laws.FnExactTailOf", spec := "fnExactTailOf", unfollowed := true, recurses := true, apart := false, narrowed := true }
def FnExactTailOfUptoSaid : Prop := fnExactTailOfUptoRow.holds Try.pinned (OpenSpec.upto fnExactTailOfSpec)

/-- 'laws.FnExactChanceOf', WHERE WHAT IT READS IS OF BULK AT MOST 1048576: true; the input reads as it did. -/
def fnExactChanceOfUptoRow : OpenClaim := { program := "ytohmnnpophompaa", sum := "68670c8b933172fae18cde2b72c4978137138e37c75c4b3a39d5264a3beb0ae7", func := "loop.example/g01121/laws.FnExactChanceOf", spec := "fnExactChanceOf", unfollowed := true, recurses := true, apart := false, narrowed := true }
def FnExactChanceOfUptoSaid : Prop := fnExactChanceOfUptoRow.holds Try.pinned (OpenSpec.upto fnExactChanceOfSpec)

/-- 'laws.FnExactMeanOf', WHERE WHAT IT READS IS OF BULK AT MOST 1048576: true; the input reads as it did. -/
def fnExactMeanOfUptoRow : OpenClaim := { program := "ytohmnnpophompaa", sum := "68670c8b933172fae18cde2b72c4978137138e37c75c4b3a39d5264a3beb0ae7", func := "loop.example/g01121/laws.FnExactMeanOf", spec := "fnExactMeanOf", unfollowed := true, recurses := true, apart := false, narrowed := true }
def FnExactMeanOfUptoSaid : Prop := fnExactMeanOfUptoRow.holds Try.pinned (OpenSpec.upto fnExactMeanOfSpec)

/-- 'laws.FnExactVarianceOf', WHERE WHAT IT READS IS OF BULK AT MOST 1048576: true; the input reads as it did. -/
def fnExactVarianceOfUptoRow : OpenClaim := { program := "ytohmnnpophompaa", sum := "68670c8b933172fae18cde2b72c4978137138e37c75c4b3a39d5264a3beb0ae7", func := "loop.example/g01121/laws.FnExactVarianceOf", spec := "fnExactVarianceOf", unfollowed := true, recurses := true, apart := false, narrowed := true }
def FnExactVarianceOfUptoSaid : Prop := fnExactVarianceOfUptoRow.holds Try.pinned (OpenSpec.upto fnExactVarianceOfSpec)

/-- 'laws.FnExactLevelOf', WHERE WHAT IT READS IS OF BULK AT MOST 1048576: true; the input reads as it did. -/
def fnExactLevelOfUptoRow : OpenClaim := { program := "ytohmnnpophompaa", sum := "68670c8b933172fae18cde2b72c4978137138e37c75c4b3a39d5264a3beb0ae7", func := "loop.example/g01121/laws.FnExactLevelOf", spec := "fnExactLevelOf", unfollowed := true, recurses := true, apart := false, narrowed := true }
def FnExactLevelOfUptoSaid : Prop := fnExactLevelOfUptoRow.holds Try.pinned (OpenSpec.upto fnExactLevelOfSpec)

end Rows
end Go.Proofs.Ytohmnnpophompaa
