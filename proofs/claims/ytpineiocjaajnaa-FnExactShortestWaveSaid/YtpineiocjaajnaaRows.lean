/-
  No cell of these rows narrows 'for every input' (looked for: loops, veiled, ifaces, maps, wideKeys, modest, calm, conditions, laid).
  DERIVED. THE GIVEN ROWS OF THIS SEAT. 4 by the template 'for every input the law returns true; each argument reads behind the call as it read before'; 0 by the template 'total and deterministic' (their statements: YtpineiocjaajnaaTotals.lean).
  GIVEN WITH THE SEED: the statements are not yours to turn. If you find one false, say at which input.
  Laid BY PROGRAM, IN A SANDBOX (cutbox-rows.mjs): the forced cells as the released guide's own fill.sh prints them over the translation ab5ae1c5f126e0a4… (all of the seat's roots in one cut). By AI agents, Wed Nov 11 2026. No macro, syntax, notation, axiom, sorry.
-/
import Derived.Test.YtpineiocjaajnaaChecked
import GoSem.Claim
import GoSem.ClaimJoined
import GoSem.ClaimMapViews
import Derived.JoinedTies
import Derived.KernelRfl
namespace Go.Proofs.Ytpineiocjaajnaa
/- THE CELL 'sum', in the pinned program and in every row, IS THE sha256 OF THE DUMP (.gsa) THAT YtpineiocjaajnaaProg.lean LOADS. Nothing in Lean hashes anything: it is a label: what it is worth is what the hold of that sum in a sandbox is worth. -/
noncomputable def Try.pinned : Pinned := { name := "ytpineiocjaajnaa", sum := "ab5ae1c5f126e0a4f0d5e8656babce7f710906244906503fe5696f2bc4253cf2", checked := Try.checked }
namespace Rows
def none {H : Type} : Left H := { results := [], args := [] }

/-- 'laws.FnExactShortestPoint': WHATEVER THE INPUT: true; the input reads as it did. -/
def fnExactShortestPointSpec : ChangeSpec := { name := "fnExactShortestPoint", fn := fun _ => fun
  | [d1, d2] => { results := [.lit (.bool true)], args := [d1, d2] }
  | _ => none }
def fnExactShortestPointRow : OpenClaim := { program := "ytpineiocjaajnaa", sum := "ab5ae1c5f126e0a4f0d5e8656babce7f710906244906503fe5696f2bc4253cf2", func := "loop.example/g01121/laws.FnExactShortestPoint", spec := "fnExactShortestPoint", unfollowed := true, recurses := true, apart := false }
def FnExactShortestPointSaid : Prop := fnExactShortestPointRow.holds Try.pinned (OpenSpec.ofChange fnExactShortestPointSpec)

/-- ITS FALSE NEIGHBOUR: 'it returns false'. Refute it at one input. -/
def fnExactShortestPointWrong : ChangeSpec := { name := "fnExactShortestPoint", fn := fun _ => fun
  | [d1, d2] => { results := [.lit (.bool false)], args := [d1, d2] }
  | _ => none }
def FnExactShortestPointWrongFalsely : Prop := fnExactShortestPointRow.holds Try.pinned (OpenSpec.ofChange fnExactShortestPointWrong)

/-- 'laws.FnExactShortestWave': WHATEVER THE INPUT: true; the input reads as it did. -/
def fnExactShortestWaveSpec : ChangeSpec := { name := "fnExactShortestWave", fn := fun _ => fun
  | [d1, d2] => { results := [.lit (.bool true)], args := [d1, d2] }
  | _ => none }
def fnExactShortestWaveRow : OpenClaim := { program := "ytpineiocjaajnaa", sum := "ab5ae1c5f126e0a4f0d5e8656babce7f710906244906503fe5696f2bc4253cf2", func := "loop.example/g01121/laws.FnExactShortestWave", spec := "fnExactShortestWave", unfollowed := true, recurses := true, apart := false }
def FnExactShortestWaveSaid : Prop := fnExactShortestWaveRow.holds Try.pinned (OpenSpec.ofChange fnExactShortestWaveSpec)

/-- ITS FALSE NEIGHBOUR: 'it returns false'. Refute it at one input. -/
def fnExactShortestWaveWrong : ChangeSpec := { name := "fnExactShortestWave", fn := fun _ => fun
  | [d1, d2] => { results := [.lit (.bool false)], args := [d1, d2] }
  | _ => none }
def FnExactShortestWaveWrongFalsely : Prop := fnExactShortestWaveRow.holds Try.pinned (OpenSpec.ofChange fnExactShortestWaveWrong)

/-- 'laws.FnExactDiceCost': WHATEVER THE INPUT: true; the input reads as it did. -/
def fnExactDiceCostSpec : ChangeSpec := { name := "fnExactDiceCost", fn := fun _ => fun
  | [d] => { results := [.lit (.bool true)], args := [d] }
  | _ => none }
def fnExactDiceCostRow : OpenClaim := { program := "ytpineiocjaajnaa", sum := "ab5ae1c5f126e0a4f0d5e8656babce7f710906244906503fe5696f2bc4253cf2", func := "loop.example/g01121/laws.FnExactDiceCost", spec := "fnExactDiceCost", unfollowed := true, recurses := true, apart := false }
def FnExactDiceCostSaid : Prop := fnExactDiceCostRow.holds Try.pinned (OpenSpec.ofChange fnExactDiceCostSpec)

/-- ITS FALSE NEIGHBOUR: 'it returns false'. Refute it at one input. -/
def fnExactDiceCostWrong : ChangeSpec := { name := "fnExactDiceCost", fn := fun _ => fun
  | [d] => { results := [.lit (.bool false)], args := [d] }
  | _ => none }
def FnExactDiceCostWrongFalsely : Prop := fnExactDiceCostRow.holds Try.pinned (OpenSpec.ofChange fnExactDiceCostWrong)

/-- 'laws.FnDifferent': WHATEVER THE INPUT: true; the input reads as it did. -/
def fnDifferentSpec : ChangeSpec := { name := "fnDifferent", fn := fun _ => fun
  | [d1, d2] => { results := [.lit (.bool true)], args := [d1, d2] }
  | _ => none }
def fnDifferentRow : OpenClaim := { program := "ytpineiocjaajnaa", sum := "ab5ae1c5f126e0a4f0d5e8656babce7f710906244906503fe5696f2bc4253cf2", func := "loop.example/g01121/laws.FnDifferent", spec := "fnDifferent", unfollowed := true, recurses := true, apart := false }
def FnDifferentSaid : Prop := fnDifferentRow.holds Try.pinned (OpenSpec.ofChange fnDifferentSpec)

/-- ITS FALSE NEIGHBOUR: 'it returns false'. Refute it at one input. -/
def fnDifferentWrong : ChangeSpec := { name := "fnDifferent", fn := fun _ => fun
  | [d1, d2] => { results := [.lit (.bool false)], args := [d1, d2] }
  | _ => none }
def FnDifferentWrongFalsely : Prop := fnDifferentRow.holds Try.pinned (OpenSpec.ofChange fnDifferentWrong)

/- THE SECOND FORM. 'bulk': how many values and letters a reading holds, each counted each time it is reached (what is shared counts as often as it is met; a slice's spare places count too). A statement '..UptoSaid' is the law's where the arguments, and the package variables that the reading takes, are together of bulk at most 1048576: NARROWER than '..Said'. Prove '..Said' where nothing that the law and all that it calls make is longer than what came in: it says more and counts as full. Else prove '..UptoSaid'. A law counts once. -/
mutual
def uptoBulk {H : Type} : DataW H → Nat
  | .lit (.string bytes) => bytes.length + 1
  | .lit _ => 1
  | .nil => 1
  | .ptr d => uptoBulk d + 1
  | .slice elems spare => uptoBulkAll elems + uptoBulkAll spare + 1
  | .agg parts => uptoBulkAll parts + 1
  | .iface _ d => uptoBulk d + 1
  | .map entries => uptoBulkEntries entries + 1
  | .held _ => 1
def uptoBulkAll {H : Type} : List (DataW H) → Nat
  | [] => 0
  | d :: r => uptoBulk d + uptoBulkAll r
def uptoBulkEntries {H : Type} : List (Lit × DataW H) → Nat
  | [] => 0
  | x :: r => uptoBulkEntry x + uptoBulkEntries r
def uptoBulkEntry {H : Type} : Lit × DataW H → Nat
  | (.string bytes, d) => bytes.length + uptoBulk d + 1
  | (_, d) => uptoBulk d + 1
 end
def uptoSmall : (H : Type) → List (DataW H) → Bool := fun _ ds => decide (uptoBulkAll ds ≤ 1048576)
def OpenSpec.upto (s : _root_.Go.ChangeSpec) : _root_.Go.OpenSpec := { _root_.Go.OpenSpec.ofChange s with cond := some uptoSmall }

/-- 'laws.FnExactShortestPoint', WHERE WHAT IT READS IS OF BULK AT MOST 1048576: true; the input reads as it did. -/
def fnExactShortestPointUptoRow : OpenClaim := { program := "ytpineiocjaajnaa", sum := "ab5ae1c5f126e0a4f0d5e8656babce7f710906244906503fe5696f2bc4253cf2", func := "loop.example/g01121/laws.FnExactShortestPoint", spec := "fnExactShortestPoint", unfollowed := true, recurses := true, apart := false, narrowed := true }
def FnExactShortestPointUptoSaid : Prop := fnExactShortestPointUptoRow.holds Try.pinned (OpenSpec.upto fnExactShortestPointSpec)

/-- 'laws.FnExactShortestWave', WHERE WHAT IT READS IS OF BULK AT MOST 1048576: true; the input reads as it did. -/
def fnExactShortestWaveUptoRow : OpenClaim := { program := "ytpineiocjaajnaa", sum := "ab5ae1c5f126e0a4f0d5e8656babce7f710906244906503fe5696f2bc4253cf2", func := "loop.example/g01121/laws.FnExactShortestWave", spec := "fnExactShortestWave", unfollowed := true, recurses := true, apart := false, narrowed := true }
def FnExactShortestWaveUptoSaid : Prop := fnExactShortestWaveUptoRow.holds Try.pinned (OpenSpec.upto fnExactShortestWaveSpec)

/-- 'laws.FnExactDiceCost', WHERE WHAT IT READS IS OF BULK AT MOST 1048576: true; the input reads as it did. -/
def fnExactDiceCostUptoRow : OpenClaim := { program := "ytpineiocjaajnaa", sum := "ab5ae1c5f126e0a4f0d5e8656babce7f710906244906503fe5696f2bc4253cf2", func := "loop.example/g01121/laws.FnExactDiceCost", spec := "fnExactDiceCost", unfollowed := true, recurses := true, apart := false, narrowed := true }
def FnExactDiceCostUptoSaid : Prop := fnExactDiceCostUptoRow.holds Try.pinned (OpenSpec.upto fnExactDiceCostSpec)

/-- 'laws.FnDifferent', WHERE WHAT IT READS IS OF BULK AT MOST 1048576: true; the input reads as it did. -/
def fnDifferentUptoRow : OpenClaim := { program := "ytpineiocjaajnaa", sum := "ab5ae1c5f126e0a4f0d5e8656babce7f710906244906503fe5696f2bc4253cf2", func := "loop.example/g01121/laws.FnDifferent", spec := "fnDifferent", unfollowed := true, recurses := true, apart := false, narrowed := true }
def FnDifferentUptoSaid : Prop := fnDifferentUptoRow.holds Try.pinned (OpenSpec.upto fnDifferentSpec)

end Rows
end Go.Proofs.Ytpineiocjaajnaa
