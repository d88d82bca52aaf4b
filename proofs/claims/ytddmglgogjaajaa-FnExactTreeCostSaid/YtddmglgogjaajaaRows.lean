/-
  No cell of these rows narrows 'for every input' (looked for: loops, veiled, ifaces, maps, wideKeys, modest, calm, conditions, laid).
  DERIVED. THE GIVEN ROWS OF THIS SEAT. 12 by the template 'for every input the law returns true; each argument reads behind the call as it read before'; 0 by the template 'total and deterministic' (their statements: YtddmglgogjaajaaTotals.lean).
  GIVEN WITH THE SEED: the statements are not yours to turn. If you find one false, say at which input.
  Laid BY PROGRAM, IN A SANDBOX (cutbox-rows.mjs): the forced cells as the released guide's own fill.sh prints them over the translation ec8ec89f5b7d9180… (all of the seat's roots in one cut). By AI agents, Wed Nov 11 2026. No macro, syntax, notation, axiom, sorry.
-/
import Derived.Test.YtddmglgogjaajaaChecked
import GoSem.Claim
import GoSem.ClaimJoined
import GoSem.ClaimMapViews
import Derived.JoinedTies
import Derived.KernelRfl
namespace Go.Proofs.Ytddmglgogjaajaa
/- THE CELL 'sum', in the pinned program and in every row, IS THE sha256 OF THE DUMP (.gsa) THAT YtddmglgogjaajaaProg.lean LOADS. Nothing in Lean hashes anything: it is a label: what it is worth is what the hold of that sum in a sandbox is worth. -/
noncomputable def Try.pinned : Pinned := { name := "ytddmglgogjaajaa", sum := "ec8ec89f5b7d918018c06424a837710827f1ddeebdb15dd8e7bf01b2d4b756e8", checked := Try.checked }
namespace Rows
def none {H : Type} : Left H := { results := [], args := [] }

/-- 'laws.FnExactPairCost': WHATEVER THE INPUT: true; the input reads as it did. -/
def fnExactPairCostSpec : ChangeSpec := { name := "fnExactPairCost", fn := fun _ => fun
  | [d] => { results := [.lit (.bool true)], args := [d] }
  | _ => none }
def fnExactPairCostRow : OpenClaim := { program := "ytddmglgogjaajaa", sum := "ec8ec89f5b7d918018c06424a837710827f1ddeebdb15dd8e7bf01b2d4b756e8", func := "loop.example/g01121/laws.FnExactPairCost", spec := "fnExactPairCost", apart := false }
def FnExactPairCostSaid : Prop := fnExactPairCostRow.holds Try.pinned (OpenSpec.ofChange fnExactPairCostSpec)

/-- ITS FALSE NEIGHBOUR: 'it returns false'. Refute it at one input. -/
def fnExactPairCostWrong : ChangeSpec := { name := "fnExactPairCost", fn := fun _ => fun
  | [d] => { results := [.lit (.bool false)], args := [d] }
  | _ => none }
def FnExactPairCostWrongFalsely : Prop := fnExactPairCostRow.holds Try.pinned (OpenSpec.ofChange fnExactPairCostWrong)

/-- 'laws.FnExactTreeCost': WHATEVER THE INPUT: true; the input reads as it did. -/
def fnExactTreeCostSpec : ChangeSpec := { name := "fnExactTreeCost", fn := fun _ => fun
  | [d] => { results := [.lit (.bool true)], args := [d] }
  | _ => none }
def fnExactTreeCostRow : OpenClaim := { program := "ytddmglgogjaajaa", sum := "ec8ec89f5b7d918018c06424a837710827f1ddeebdb15dd8e7bf01b2d4b756e8", func := "loop.example/g01121/laws.FnExactTreeCost", spec := "fnExactTreeCost", unfollowed := true, recurses := true, apart := false }
def FnExactTreeCostSaid : Prop := fnExactTreeCostRow.holds Try.pinned (OpenSpec.ofChange fnExactTreeCostSpec)

/-- ITS FALSE NEIGHBOUR: 'it returns false'. Refute it at one input. -/
def fnExactTreeCostWrong : ChangeSpec := { name := "fnExactTreeCost", fn := fun _ => fun
  | [d] => { results := [.lit (.bool false)], args := [d] }
  | _ => none }
def FnExactTreeCostWrongFalsely : Prop := fnExactTreeCostRow.holds Try.pinned (OpenSpec.ofChange fnExactTreeCostWrong)

/-- 'laws.FnExactDiceCost': WHATEVER THE INPUT: true; the input reads as it did. -/
def fnExactDiceCostSpec : ChangeSpec := { name := "fnExactDiceCost", fn := fun _ => fun
  | [d] => { results := [.lit (.bool true)], args := [d] }
  | _ => none }
def fnExactDiceCostRow : OpenClaim := { program := "ytddmglgogjaajaa", sum := "ec8ec89f5b7d918018c06424a837710827f1ddeebdb15dd8e7bf01b2d4b756e8", func := "loop.example/g01121/laws.FnExactDiceCost", spec := "fnExactDiceCost", unfollowed := true, recurses := true, apart := false }
def FnExactDiceCostSaid : Prop := fnExactDiceCostRow.holds Try.pinned (OpenSpec.ofChange fnExactDiceCostSpec)

/-- ITS FALSE NEIGHBOUR: 'it returns false'. Refute it at one input. -/
def fnExactDiceCostWrong : ChangeSpec := { name := "fnExactDiceCost", fn := fun _ => fun
  | [d] => { results := [.lit (.bool false)], args := [d] }
  | _ => none }
def FnExactDiceCostWrongFalsely : Prop := fnExactDiceCostRow.holds Try.pinned (OpenSpec.ofChange fnExactDiceCostWrong)

/-- 'laws.FnExactDifferentLaw': WHATEVER THE INPUT: true; the input reads as it did. -/
def fnExactDifferentLawSpec : ChangeSpec := { name := "fnExactDifferentLaw", fn := fun _ => fun
  | [d1, d2] => { results := [.lit (.bool true)], args := [d1, d2] }
  | _ => none }
def fnExactDifferentLawRow : OpenClaim := { program := "ytddmglgogjaajaa", sum := "ec8ec89f5b7d918018c06424a837710827f1ddeebdb15dd8e7bf01b2d4b756e8", func := "loop.example/g01121/laws.FnExactDifferentLaw", spec := "fnExactDifferentLaw", apart := false }
def FnExactDifferentLawSaid : Prop := fnExactDifferentLawRow.holds Try.pinned (OpenSpec.ofChange fnExactDifferentLawSpec)

/-- ITS FALSE NEIGHBOUR: 'it returns false'. Refute it at one input. -/
def fnExactDifferentLawWrong : ChangeSpec := { name := "fnExactDifferentLaw", fn := fun _ => fun
  | [d1, d2] => { results := [.lit (.bool false)], args := [d1, d2] }
  | _ => none }
def FnExactDifferentLawWrongFalsely : Prop := fnExactDifferentLawRow.holds Try.pinned (OpenSpec.ofChange fnExactDifferentLawWrong)

/-- 'laws.FnExactOnesLaw': WHATEVER THE INPUT: true; the input reads as it did. -/
def fnExactOnesLawSpec : ChangeSpec := { name := "fnExactOnesLaw", fn := fun _ => fun
  | [d] => { results := [.lit (.bool true)], args := [d] }
  | _ => none }
def fnExactOnesLawRow : OpenClaim := { program := "ytddmglgogjaajaa", sum := "ec8ec89f5b7d918018c06424a837710827f1ddeebdb15dd8e7bf01b2d4b756e8", func := "loop.example/g01121/laws.FnExactOnesLaw", spec := "fnExactOnesLaw", named := ["math/bits.divideError", "math/bits.overflowError"], apart := false }
def FnExactOnesLawSaid : Prop := fnExactOnesLawRow.holds Try.pinned (OpenSpec.ofChange fnExactOnesLawSpec)

/-- ITS FALSE NEIGHBOUR: 'it returns false'. Refute it at one input. -/
def fnExactOnesLawWrong : ChangeSpec := { name := "fnExactOnesLaw", fn := fun _ => fun
  | [d] => { results := [.lit (.bool false)], args := [d] }
  | _ => none }
def FnExactOnesLawWrongFalsely : Prop := fnExactOnesLawRow.holds Try.pinned (OpenSpec.ofChange fnExactOnesLawWrong)

/-- 'laws.FnExactRunsLaw': WHATEVER THE INPUT: true; the input reads as it did. -/
def fnExactRunsLawSpec : ChangeSpec := { name := "fnExactRunsLaw", fn := fun _ => fun
  | [d] => { results := [.lit (.bool true)], args := [d] }
  | _ => none }
def fnExactRunsLawRow : OpenClaim := { program := "ytddmglgogjaajaa", sum := "ec8ec89f5b7d918018c06424a837710827f1ddeebdb15dd8e7bf01b2d4b756e8", func := "loop.example/g01121/laws.FnExactRunsLaw", spec := "fnExactRunsLaw", named := ["math/bits.divideError", "math/bits.overflowError"], apart := false }
def FnExactRunsLawSaid : Prop := fnExactRunsLawRow.holds Try.pinned (OpenSpec.ofChange fnExactRunsLawSpec)

/-- ITS FALSE NEIGHBOUR: 'it returns false'. Refute it at one input. -/
def fnExactRunsLawWrong : ChangeSpec := { name := "fnExactRunsLaw", fn := fun _ => fun
  | [d] => { results := [.lit (.bool false)], args := [d] }
  | _ => none }
def FnExactRunsLawWrongFalsely : Prop := fnExactRunsLawRow.holds Try.pinned (OpenSpec.ofChange fnExactRunsLawWrong)

/-- 'laws.FnExactLongestLaw': WHATEVER THE INPUT: true; the input reads as it did. -/
def fnExactLongestLawSpec : ChangeSpec := { name := "fnExactLongestLaw", fn := fun _ => fun
  | [d] => { results := [.lit (.bool true)], args := [d] }
  | _ => none }
def fnExactLongestLawRow : OpenClaim := { program := "ytddmglgogjaajaa", sum := "ec8ec89f5b7d918018c06424a837710827f1ddeebdb15dd8e7bf01b2d4b756e8", func := "loop.example/g01121/laws.FnExactLongestLaw", spec := "fnExactLongestLaw", apart := false }
def FnExactLongestLawSaid : Prop := fnExactLongestLawRow.holds Try.pinned (OpenSpec.ofChange fnExactLongestLawSpec)

/-- ITS FALSE NEIGHBOUR: 'it returns false'. Refute it at one input. -/
def fnExactLongestLawWrong : ChangeSpec := { name := "fnExactLongestLaw", fn := fun _ => fun
  | [d] => { results := [.lit (.bool false)], args := [d] }
  | _ => none }
def FnExactLongestLawWrongFalsely : Prop := fnExactLongestLawRow.holds Try.pinned (OpenSpec.ofChange fnExactLongestLawWrong)

/-- 'laws.FnExactValidLaw': WHATEVER THE INPUT: true; the input reads as it did. -/
def fnExactValidLawSpec : ChangeSpec := { name := "fnExactValidLaw", fn := fun _ => fun
  | [d] => { results := [.lit (.bool true)], args := [d] }
  | _ => none }
def fnExactValidLawRow : OpenClaim := { program := "ytddmglgogjaajaa", sum := "ec8ec89f5b7d918018c06424a837710827f1ddeebdb15dd8e7bf01b2d4b756e8", func := "loop.example/g01121/laws.FnExactValidLaw", spec := "fnExactValidLaw", unfollowed := true, recurses := true, apart := false }
def FnExactValidLawSaid : Prop := fnExactValidLawRow.holds Try.pinned (OpenSpec.ofChange fnExactValidLawSpec)

/-- ITS FALSE NEIGHBOUR: 'it returns false'. Refute it at one input. -/
def fnExactValidLawWrong : ChangeSpec := { name := "fnExactValidLaw", fn := fun _ => fun
  | [d] => { results := [.lit (.bool false)], args := [d] }
  | _ => none }
def FnExactValidLawWrongFalsely : Prop := fnExactValidLawRow.holds Try.pinned (OpenSpec.ofChange fnExactValidLawWrong)

/-- 'laws.FnExactChanceOf': WHATEVER THE INPUT: true; the input reads as it did. -/
def fnExactChanceOfSpec : ChangeSpec := { name := "fnExactChanceOf", fn := fun _ => fun
  | [d1, d2] => { results := [.lit (.bool true)], args := [d1, d2] }
  | _ => none }
def fnExactChanceOfRow : OpenClaim := { program := "ytddmglgogjaajaa", sum := "ec8ec89f5b7d918018c06424a837710827f1ddeebdb15dd8e7bf01b2d4b756e8", func := "loop.example/g01121/laws.FnExactChanceOf", spec := "fnExactChanceOf", unfollowed := true, recurses := true, apart := false }
def FnExactChanceOfSaid : Prop := fnExactChanceOfRow.holds Try.pinned (OpenSpec.ofChange fnExactChanceOfSpec)

/-- ITS FALSE NEIGHBOUR: 'it returns false'. Refute it at one input. -/
def fnExactChanceOfWrong : ChangeSpec := { name := "fnExactChanceOf", fn := fun _ => fun
  | [d1, d2] => { results := [.lit (.bool false)], args := [d1, d2] }
  | _ => none }
def FnExactChanceOfWrongFalsely : Prop := fnExactChanceOfRow.holds Try.pinned (OpenSpec.ofChange fnExactChanceOfWrong)

/-- 'laws.FnExactTailOf': WHATEVER THE INPUT: true; the input reads as it did. -/
def fnExactTailOfSpec : ChangeSpec := { name := "fnExactTailOf", fn := fun _ => fun
  | [d1, d2] => { results := [.lit (.bool true)], args := [d1, d2] }
  | _ => none }
def fnExactTailOfRow : OpenClaim := { program := "ytddmglgogjaajaa", sum := "ec8ec89f5b7d918018c06424a837710827f1ddeebdb15dd8e7bf01b2d4b756e8", func := "loop.example/g01121/laws.FnExactTailOf", spec := "fnExactTailOf", unfollowed := true, recurses := true, apart := false }
def FnExactTailOfSaid : Prop := fnExactTailOfRow.holds Try.pinned (OpenSpec.ofChange fnExactTailOfSpec)

/-- ITS FALSE NEIGHBOUR: 'it returns false'. Refute it at one input. -/
def fnExactTailOfWrong : ChangeSpec := { name := "fnExactTailOf", fn := fun _ => fun
  | [d1, d2] => { results := [.lit (.bool false)], args := [d1, d2] }
  | _ => none }
def FnExactTailOfWrongFalsely : Prop := fnExactTailOfRow.holds Try.pinned (OpenSpec.ofChange fnExactTailOfWrong)

/-- 'laws.FnExactMeanOf': WHATEVER THE INPUT: true; the input reads as it did. -/
def fnExactMeanOfSpec : ChangeSpec := { name := "fnExactMeanOf", fn := fun _ => fun
  | [d] => { results := [.lit (.bool true)], args := [d] }
  | _ => none }
def fnExactMeanOfRow : OpenClaim := { program := "ytddmglgogjaajaa", sum := "ec8ec89f5b7d918018c06424a837710827f1ddeebdb15dd8e7bf01b2d4b756e8", func := "loop.example/g01121/laws.FnExactMeanOf", spec := "fnExactMeanOf", unfollowed := true, recurses := true, apart := false }
def FnExactMeanOfSaid : Prop := fnExactMeanOfRow.holds Try.pinned (OpenSpec.ofChange fnExactMeanOfSpec)

/-- ITS FALSE NEIGHBOUR: 'it returns false'. Refute it at one input. -/
def fnExactMeanOfWrong : ChangeSpec := { name := "fnExactMeanOf", fn := fun _ => fun
  | [d] => { results := [.lit (.bool false)], args := [d] }
  | _ => none }
def FnExactMeanOfWrongFalsely : Prop := fnExactMeanOfRow.holds Try.pinned (OpenSpec.ofChange fnExactMeanOfWrong)

/-- 'laws.FnExactVarianceOf': WHATEVER THE INPUT: true; the input reads as it did. -/
def fnExactVarianceOfSpec : ChangeSpec := { name := "fnExactVarianceOf", fn := fun _ => fun
  | [d] => { results := [.lit (.bool true)], args := [d] }
  | _ => none }
def fnExactVarianceOfRow : OpenClaim := { program := "ytddmglgogjaajaa", sum := "ec8ec89f5b7d918018c06424a837710827f1ddeebdb15dd8e7bf01b2d4b756e8", func := "loop.example/g01121/laws.FnExactVarianceOf", spec := "fnExactVarianceOf", unfollowed := true, recurses := true, apart := false }
def FnExactVarianceOfSaid : Prop := fnExactVarianceOfRow.holds Try.pinned (OpenSpec.ofChange fnExactVarianceOfSpec)

/-- ITS FALSE NEIGHBOUR: 'it returns false'. Refute it at one input. -/
def fnExactVarianceOfWrong : ChangeSpec := { name := "fnExactVarianceOf", fn := fun _ => fun
  | [d] => { results := [.lit (.bool false)], args := [d] }
  | _ => none }
def FnExactVarianceOfWrongFalsely : Prop := fnExactVarianceOfRow.holds Try.pinned (OpenSpec.ofChange fnExactVarianceOfWrong)

/- THE SECOND FORM. 'bulk': how many values and letters a reading holds, each counted each time it is reached (what is shared counts as often as it is met; a slice's spare places count too). A statement '..UptoSaid' is the law's where the arguments, and the package variables that the reading takes, are together of bulk at most 1048576: NARROWER than '..Said'. Prove '..Said' where nothing that the law and all that it calls make is longer than what came in: it says more and counts as full. Else prove '..UptoSaid'. A law counts once. -/
mutual
def uptoBulk {H : Type} : DataW H → Nat
  | .lit (.string bytes) => bytes.length + 1
  | .lit _ => 1
  | .nil => 1
  | .ptr d => uptoBulk d + 1
  | .slice elems spare => uptoBulkAll elems + uptoBulkAll spare + 1
  | .agg parts => uptoBulkAll parts + 1
  | .iface _ d => uptoBulk d + 1
  | .map entries => uptoBulkEntries entries + 1
  | .held _ => 1
def uptoBulkAll {H : Type} : List (DataW H) → Nat
  | [] => 0
  | d :: r => uptoBulk d + uptoBulkAll r
def uptoBulkEntries {H : Type} : List (Lit × DataW H) → Nat
  | [] => 0
  | x :: r => uptoBulkEntry x + uptoBulkEntries r
def uptoBulkEntry {H : Type} : Lit × DataW H → Nat
  | (.string bytes, d) => bytes.length + uptoBulk d + 1
  | (_, d) => uptoBulk d + 1
 end
def uptoSmall : (H : Type) → List (DataW H) → Bool := fun _ ds => decide (uptoBulkAll ds ≤ 1048576)
def OpenSpec.upto (s : _root_.Go.ChangeSpec) : _root_.Go.OpenSpec := { _root_.Go.OpenSpec.ofChange s with cond := some uptoSmall }

/-- 'laws.FnExactPairCost', WHERE WHAT IT READS IS OF BULK AT MOST 1048576: true; the input reads as it did. -/
def fnExactPairCostUptoRow : OpenClaim := { program := "ytddmglgogjaajaa", sum := "ec8ec89f5b7d918018c06424a837710827f1ddeebdb15dd8e7bf01b2d4b756e8", func := "loop.example/g01121/laws.FnExactPairCost", spec := "fnExactPairCost", apart := false, narrowed := true }
def FnExactPairCostUptoSaid : Prop := fnExactPairCostUptoRow.holds Try.pinned (OpenSpec.upto fnExactPairCostSpec)

/-- 'laws.FnExactTreeCost', WHERE WHAT IT READS IS OF BULK AT MOST 1048576: true; the input reads as it did. -/
def fnExactTreeCostUptoRow : OpenClaim := { program := "ytddmglgogjaajaa", sum := "ec8ec89f5b7d918018c06424a837710827f1ddeebdb15dd8e7bf01b2d4b756e8", func := "loop.example/g01121/laws.FnExactTreeCost", spec := "fnExactTreeCost", unfollowed := true, recurses := true, apart := false, narrowed := true }
def FnExactTreeCostUptoSaid : Prop := fnExactTreeCostUptoRow.holds Try.pinned (OpenSpec.upto fnExactTreeCostSpec)

/-- 'laws.FnExactDiceCost', WHERE WHAT IT READS IS OF BULK AT MOST 1048576: true; the input reads as it did. -/
def fnExactDiceCostUptoRow : OpenClaim := { program := "ytddmglgogjaajaa", sum := "ec8ec89f5b7d918018c06424a837710827f1ddeebdb15dd8e7bf01b2d4b756e8", func := "loop.example/g01121/laws.FnExactDiceCost", spec := "fnExactDiceCost", unfollowed := true, recurses := true, apart := false, narrowed := true }
def FnExactDiceCostUptoSaid : Prop := fnExactDiceCostUptoRow.holds Try.pinned (OpenSpec.upto fnExactDiceCostSpec)

/-- 'laws.FnExactDifferentLaw', WHERE WHAT IT READS IS OF BULK AT MOST 1048576: true; the input reads as it did. -/
def fnExactDifferentLawUptoRow : OpenClaim := { program := "ytddmglgogjaajaa", sum := "ec8ec89f5b7d918018c06424a837710827f1ddeebdb15dd8e7bf01b2d4b756e8", func := "loop.example/g01121/laws.FnExactDifferentLaw", spec := "fnExactDifferentLaw", apart := false, narrowed := true }
def FnExactDifferentLawUptoSaid : Prop := fnExactDifferentLawUptoRow.holds Try.pinned (OpenSpec.upto fnExactDifferentLawSpec)

/-- 'laws.FnExactOnesLaw', WHERE WHAT IT READS IS OF BULK AT MOST 1048576: true; the input reads as it did. -/
def fnExactOnesLawUptoRow : OpenClaim := { program := "ytddmglgogjaajaa", sum := "ec8ec89f5b7d918018c06424a837710827f1ddeebdb15dd8e7bf01b2d4b756e8", func := "loop.example/g01121/laws.FnExactOnesLaw", spec := "fnExactOnesLaw", named := ["math/bits.divideError", "math/bits.overflowError"], apart := false, narrowed := true }
def FnExactOnesLawUptoSaid : Prop := fnExactOnesLawUptoRow.holds Try.pinned (OpenSpec.upto fnExactOnesLawSpec)

/-- 'laws.FnExactRunsLaw', WHERE WHAT IT READS IS OF BULK AT MOST 1048576: true; the input reads as it did. -/
def fnExactRunsLawUptoRow : OpenClaim := { program := "ytddmglgogjaajaa", sum := "ec8ec89f5b7d918018c06424a837710827f1ddeebdb15dd8e7bf01b2d4b756e8", func := "loop.example/g01121/laws.FnExactRunsLaw", spec := "fnExactRunsLaw", named := ["math/bits.divideError", "math/bits.overflowError"], apart := false, narrowed := true }
def FnExactRunsLawUptoSaid : Prop := fnExactRunsLawUptoRow.holds Try.pinned (OpenSpec.upto fnExactRunsLawSpec)

/-- 'laws.FnExactLongestLaw', WHERE WHAT IT READS IS OF BULK AT MOST 1048576: true; the input reads as it did. -/
def fnExactLongestLawUptoRow : OpenClaim := { program := "ytddmglgogjaajaa", sum := "ec8ec89f5b7d918018c06424a837710827f1ddeebdb15dd8e7bf01b2d4b756e8", func := "loop.example/g01121/laws.FnExactLongestLaw", spec := "fnExactLongestLaw", apart := false, narrowed := true }
def FnExactLongestLawUptoSaid : Prop := fnExactLongestLawUptoRow.holds Try.pinned (OpenSpec.upto fnExactLongestLawSpec)

/-- 'laws.FnExactValidLaw', WHERE WHAT IT READS IS OF BULK AT MOST 1048576: true; the input reads as it did. -/
def fnExactValidLawUptoRow : OpenClaim := { program := "ytddmglgogjaajaa", sum := "ec8ec89f5b7d918018c06424a837710827f1ddeebdb15dd8e7bf01b2d4b756e8", func := "loop.example/g01121/laws.FnExactValidLaw", spec := "fnExactValidLaw", unfollowed := true, recurses := true, apart := false, narrowed := true }
def FnExactValidLawUptoSaid : Prop := fnExactValidLawUptoRow.holds Try.pinned (OpenSpec.upto fnExactValidLawSpec)

/-- 'laws.FnExactChanceOf', WHERE WHAT IT READS IS OF BULK AT MOST 1048576: true; the input reads as it did. -/
def fnExactChanceOfUptoRow : OpenClaim := { program := "ytddmglgogjaajaa", sum := "ec8ec89f5b7d918018c06424a837710827f1ddeebdb15dd8e7bf01b2d4b756e8", func := "loop.example/g01121/laws.FnExactChanceOf", spec := "fnExactChanceOf", unfollowed := true, recurses := true, apart := false, narrowed := true }
def FnExactChanceOfUptoSaid : Prop := fnExactChanceOfUptoRow.holds Try.pinned (OpenSpec.upto fnExactChanceOfSpec)

/-- 'laws.FnExactTailOf', WHERE WHAT IT READS IS OF BULK AT MOST 1048576: true; the input reads as it did. -/
def fnExactTailOfUptoRow : OpenClaim := { program := "ytddmglgogjaajaa", sum := "ec8ec89f5b7d918018c06424a837710827f1ddeebdb15dd8e7bf01b2d4b756e8", func := "loop.example/g01121/laws.FnExactTailOf", spec := "fnExactTailOf", unfollowed := true, recurses := true, apart := false, narrowed := true }
def FnExactTailOfUptoSaid : Prop := fnExactTailOfUptoRow.holds Try.pinned (OpenSpec.upto fnExactTailOfSpec)

/-- 'laws.FnExactMeanOf', WHERE WHAT IT READS IS OF BULK AT MOST 1048576: true; the input reads as it did. -/
def fnExactMeanOfUptoRow : OpenClaim := { program := "ytddmglgogjaajaa", sum := "ec8ec89f5b7d918018c06424a837710827f1ddeebdb15dd8e7bf01b2d4b756e8", func := "loop.example/g01121/laws.FnExactMeanOf", spec := "fnExactMeanOf", unfollowed := true, recurses := true, apart := false, narrowed := true }
def FnExactMeanOfUptoSaid : Prop := fnExactMeanOfUptoRow.holds Try.pinned (OpenSpec.upto fnExactMeanOfSpec)

/-- 'laws.FnExactVarianceOf', WHERE WHAT IT READS IS OF BULK AT MOST 1048576: true; the input reads as it did. -/
def fnExactVarianceOfUptoRow : OpenClaim := { program := "ytddmglgogjaajaa", sum := "ec8ec89f5b7d918018c06424a837710827f1ddeebdb15dd8e7bf01b2d4b756e8", func := "loop.example/g01121/laws.FnExactVarianceOf", spec := "fnExactVarianceOf", unfollowed := true, recurses := true, apart := false, narrowed := true }
def FnExactVarianceOfUptoSaid : Prop := fnExactVarianceOfUptoRow.holds Try.pinned (OpenSpec.upto fnExactVarianceOfSpec)

end Rows
end Go.Proofs.Ytddmglgogjaajaa
