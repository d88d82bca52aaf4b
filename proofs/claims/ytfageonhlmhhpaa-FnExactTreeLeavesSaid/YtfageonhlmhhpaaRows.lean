/-
  No cell of these rows narrows 'for every input' (looked for: loops, veiled, ifaces, maps, wideKeys, modest, calm, conditions, laid).
  DERIVED. THE GIVEN ROWS OF THIS SEAT. 5 by the template 'for every input the law returns true; each argument reads behind the call as it read before'; 0 by the template 'total and deterministic' (their statements: YtfageonhlmhhpaaTotals.lean).
  GIVEN WITH THE SEED: the statements are not yours to turn. If you find one false, say at which input.
  Laid BY PROGRAM, IN A SANDBOX (cutbox-rows.mjs): the forced cells as the released guide's own fill.sh prints them over the translation e43c207ef679fa29… (all of the seat's roots in one cut). By AI agents, Wed Nov 11 2026. No macro, syntax, notation, axiom, sorry.
-/
import Derived.Test.YtfageonhlmhhpaaChecked
import GoSem.Claim
import GoSem.ClaimJoined
import GoSem.ClaimMapViews
import Derived.JoinedTies
import Derived.KernelRfl
namespace Go.Proofs.Ytfageonhlmhhpaa
/- THE CELL 'sum', in the pinned program and in every row, IS THE sha256 OF THE DUMP (.gsa) THAT YtfageonhlmhhpaaProg.lean LOADS. Nothing in Lean hashes anything: it is a label: what it is worth is what the hold of that sum in a sandbox is worth. -/
noncomputable def Try.pinned : Pinned := { name := "ytfageonhlmhhpaa", sum := "e43c207ef679fa29dc6c2de5a5a604266ec494e326e615236e783e32e9df8c6c", checked := Try.checked }
namespace Rows
def none {H : Type} : Left H := { results := [], args := [] }

/-- 'laws.FnExactIsDyadic': WHATEVER THE INPUT: true; the input reads as it did. -/
def fnExactIsDyadicSpec : ChangeSpec := { name := "fnExactIsDyadic", fn := fun _ => fun
  | [d] => { results := [.lit (.bool true)], args := [d] }
  | _ => none }
def fnExactIsDyadicRow : OpenClaim := { program := "ytfageonhlmhhpaa", sum := "e43c207ef679fa29dc6c2de5a5a604266ec494e326e615236e783e32e9df8c6c", func := "loop.example/g01121/laws.FnExactIsDyadic", spec := "fnExactIsDyadic", unfollowed := true, recurses := true, apart := false }
def FnExactIsDyadicSaid : Prop := fnExactIsDyadicRow.holds Try.pinned (OpenSpec.ofChange fnExactIsDyadicSpec)

/-- ITS FALSE NEIGHBOUR: 'it returns false'. Refute it at one input. -/
def fnExactIsDyadicWrong : ChangeSpec := { name := "fnExactIsDyadic", fn := fun _ => fun
  | [d] => { results := [.lit (.bool false)], args := [d] }
  | _ => none }
def FnExactIsDyadicWrongFalsely : Prop := fnExactIsDyadicRow.holds Try.pinned (OpenSpec.ofChange fnExactIsDyadicWrong)

/-- 'laws.FnAliasExact': WHATEVER THE INPUT: true; the input reads as it did. -/
def fnAliasExactSpec : ChangeSpec := { name := "fnAliasExact", fn := fun _ => fun
  | [d1, d2] => { results := [.lit (.bool true)], args := [d1, d2] }
  | _ => none }
def fnAliasExactRow : OpenClaim := { program := "ytfageonhlmhhpaa", sum := "e43c207ef679fa29dc6c2de5a5a604266ec494e326e615236e783e32e9df8c6c", func := "loop.example/g01121/laws.FnAliasExact", spec := "fnAliasExact", unfollowed := true, recurses := true, apart := false }
def FnAliasExactSaid : Prop := fnAliasExactRow.holds Try.pinned (OpenSpec.ofChange fnAliasExactSpec)

/-- ITS FALSE NEIGHBOUR: 'it returns false'. Refute it at one input. -/
def fnAliasExactWrong : ChangeSpec := { name := "fnAliasExact", fn := fun _ => fun
  | [d1, d2] => { results := [.lit (.bool false)], args := [d1, d2] }
  | _ => none }
def FnAliasExactWrongFalsely : Prop := fnAliasExactRow.holds Try.pinned (OpenSpec.ofChange fnAliasExactWrong)

/-- 'laws.FnExactAliasFace': WHATEVER THE INPUT: true; the input reads as it did. -/
def fnExactAliasFaceSpec : ChangeSpec := { name := "fnExactAliasFace", fn := fun _ => fun
  | [d1, d2, d3] => { results := [.lit (.bool true)], args := [d1, d2, d3] }
  | _ => none }
def fnExactAliasFaceRow : OpenClaim := { program := "ytfageonhlmhhpaa", sum := "e43c207ef679fa29dc6c2de5a5a604266ec494e326e615236e783e32e9df8c6c", func := "loop.example/g01121/laws.FnExactAliasFace", spec := "fnExactAliasFace", unfollowed := true, recurses := true, apart := false }
def FnExactAliasFaceSaid : Prop := fnExactAliasFaceRow.holds Try.pinned (OpenSpec.ofChange fnExactAliasFaceSpec)

/-- ITS FALSE NEIGHBOUR: 'it returns false'. Refute it at one input. -/
def fnExactAliasFaceWrong : ChangeSpec := { name := "fnExactAliasFace", fn := fun _ => fun
  | [d1, d2, d3] => { results := [.lit (.bool false)], args := [d1, d2, d3] }
  | _ => none }
def FnExactAliasFaceWrongFalsely : Prop := fnExactAliasFaceRow.holds Try.pinned (OpenSpec.ofChange fnExactAliasFaceWrong)

/-- 'laws.FnExactAliasTable': WHATEVER THE INPUT: true; the input reads as it did. -/
def fnExactAliasTableSpec : ChangeSpec := { name := "fnExactAliasTable", fn := fun _ => fun
  | [d] => { results := [.lit (.bool true)], args := [d] }
  | _ => none }
def fnExactAliasTableRow : OpenClaim := { program := "ytfageonhlmhhpaa", sum := "e43c207ef679fa29dc6c2de5a5a604266ec494e326e615236e783e32e9df8c6c", func := "loop.example/g01121/laws.FnExactAliasTable", spec := "fnExactAliasTable", unfollowed := true, recurses := true, apart := false }
def FnExactAliasTableSaid : Prop := fnExactAliasTableRow.holds Try.pinned (OpenSpec.ofChange fnExactAliasTableSpec)

/-- ITS FALSE NEIGHBOUR: 'it returns false'. Refute it at one input. -/
def fnExactAliasTableWrong : ChangeSpec := { name := "fnExactAliasTable", fn := fun _ => fun
  | [d] => { results := [.lit (.bool false)], args := [d] }
  | _ => none }
def FnExactAliasTableWrongFalsely : Prop := fnExactAliasTableRow.holds Try.pinned (OpenSpec.ofChange fnExactAliasTableWrong)

/-- 'laws.FnExactTreeLeaves': WHATEVER THE INPUT: true; the input reads as it did. -/
def fnExactTreeLeavesSpec : ChangeSpec := { name := "fnExactTreeLeaves", fn := fun _ => fun
  | [d] => { results := [.lit (.bool true)], args := [d] }
  | _ => none }
def fnExactTreeLeavesRow : OpenClaim := { program := "ytfageonhlmhhpaa", sum := "e43c207ef679fa29dc6c2de5a5a604266ec494e326e615236e783e32e9df8c6c", func := "loop.example/g01121/laws.FnExactTreeLeaves", spec := "fnExactTreeLeaves", unfollowed := true, recurses := true, apart := false }
def FnExactTreeLeavesSaid : Prop := fnExactTreeLeavesRow.holds Try.pinned (OpenSpec.ofChange fnExactTreeLeavesSpec)

/-- ITS FALSE NEIGHBOUR: 'it returns false'. Refute it at one input. -/
def fnExactTreeLeavesWrong : ChangeSpec := { name := "fnExactTreeLeaves", fn := fun _ => fun
  | [d] => { results := [.lit (.bool false)], args := [d] }
  | _ => none }
def FnExactTreeLeavesWrongFalsely : Prop := fnExactTreeLeavesRow.holds Try.pinned (OpenSpec.ofChange fnExactTreeLeavesWrong)

/- THE SECOND FORM. 'bulk': how many values and letters a reading holds, each counted each time it is reached (what is shared counts as often as it is met; a slice's spare places count too). A statement '..UptoSaid' is the law's where the arguments, and the package variables that the reading takes, are together of bulk at most 1048576: NARROWER than '..Said'. Prove '..Said' where nothing that the law and all that it calls make is longer than what came in: it says more and counts as full. Else prove '..UptoSaid'. A law counts once. -/
mutual
def uptoBulk {H : Type} : DataW H → Nat
  | .lit (.string bytes) => bytes.length + 1
  | .lit _ => 1
  | .nil => 1
  | .ptr d => uptoBulk d + 1
  | .slice elems spare => uptoBulkAll elems + uptoBulkAll spare + 1
  | .agg parts => uptoBulkAll parts + 1
  | .iface _ d => uptoBulk d + 1
  | .map entries => uptoBulkEntries entries + 1
  | .held _ => 1
def uptoBulkAll {H : Type} : List (DataW H) → Nat
  | [] => 0
  | d :: r => uptoBulk d + uptoBulkAll r
def uptoBulkEntries {H : Type} : List (Lit × DataW H) → Nat
  | [] => 0
  | x :: r => uptoBulkEntry x + uptoBulkEntries r
def uptoBulkEntry {H : Type} : Lit × DataW H → Nat
  | (.string bytes, d) => bytes.length + uptoBulk d + 1
  | (_, d) => uptoBulk d + 1
 end
def uptoSmall : (H : Type) → List (DataW H) → Bool := fun _ ds => decide (uptoBulkAll ds ≤ 1048576)
def OpenSpec.upto (s : _root_.Go.ChangeSpec) : _root_.Go.OpenSpec := { _root_.Go.OpenSpec.ofChange s with cond := some uptoSmall }

/-- 'laws.FnExactIsDyadic', WHERE WHAT IT READS IS OF BULK AT MOST 1048576: true; the input reads as it did. -/
def fnExactIsDyadicUptoRow : OpenClaim := { program := "ytfageonhlmhhpaa", sum := "e43c207ef679fa29dc6c2de5a5a604266ec494e326e615236e783e32e9df8c6c", func := "loop.example/g01121/laws.FnExactIsDyadic", spec := "fnExactIsDyadic", unfollowed := true, recurses := true, apart := false, narrowed := true }
def FnExactIsDyadicUptoSaid : Prop := fnExactIsDyadicUptoRow.holds Try.pinned (OpenSpec.upto fnExactIsDyadicSpec)

/-- 'laws.FnAliasExact', WHERE WHAT IT READS IS OF BULK AT MOST 1048576: true; the input reads as it did. -/
def fnAliasExactUptoRow : OpenClaim := { program := "ytfageonhlmhhpaa", sum := "e43c207ef679fa29dc6c2de5a5a604266ec494e326e615236e783e32e9df8c6c", func := "loop.example/g01121/laws.FnAliasExact", spec := "fnAliasExact", unfollowed := true, recurses := true, apart := false, narrowed := true }
def FnAliasExactUptoSaid : Prop := fnAliasExactUptoRow.holds Try.pinned (OpenSpec.upto fnAliasExactSpec)

/-- 'laws.FnExactAliasFace', WHERE WHAT IT READS IS OF BULK AT MOST 1048576: true; the input reads as it did. -/
def fnExactAliasFaceUptoRow : OpenClaim := { program := "ytfageonhlmhhpaa", sum := "e43c207ef679fa29dc6c2de5a5a604266ec494e326e615236e783e32e9df8c6c", func := "loop.example/g01121/laws.FnExactAliasFace", spec := "fnExactAliasFace", unfollowed := true, recurses := true, apart := false, narrowed := true }
def FnExactAliasFaceUptoSaid : Prop := fnExactAliasFaceUptoRow.holds Try.pinned (OpenSpec.upto fnExactAliasFaceSpec)

/-- 'laws.FnExactAliasTable', WHERE WHAT IT READS IS OF BULK AT MOST 1048576: true; the input reads as it did. -/
def fnExactAliasTableUptoRow : OpenClaim := { program := "ytfageonhlmhhpaa", sum := "e43c207ef679fa29dc6c2de5a5a604266ec494e326e615236e783e32e9df8c6c", func := "loop.example/g01121/laws.FnExactAliasTable", spec := "fnExactAliasTable", unfollowed := true, recurses := true, apart := false, narrowed := true }
def FnExactAliasTableUptoSaid : Prop := fnExactAliasTableUptoRow.holds Try.pinned (OpenSpec.upto fnExactAliasTableSpec)

/-- 'laws.FnExactTreeLeaves', WHERE WHAT IT READS IS OF BULK AT MOST 1048576: true; the input reads as it did. -/
def fnExactTreeLeavesUptoRow : OpenClaim := { program := "ytfageonhlmhhpaa", sum := "e43c207ef679fa29dc6c2de5a5a604266ec494e326e615236e783e32e9df8c6c", func := "loop.example/g01121/laws.FnExactTreeLeaves", spec := "fnExactTreeLeaves", unfollowed := true, recurses := true, apart := false, narrowed := true }
def FnExactTreeLeavesUptoSaid : Prop := fnExactTreeLeavesUptoRow.holds Try.pinned (OpenSpec.upto fnExactTreeLeavesSpec)

end Rows
end Go.Proofs.Ytfageonhlmhhpaa
