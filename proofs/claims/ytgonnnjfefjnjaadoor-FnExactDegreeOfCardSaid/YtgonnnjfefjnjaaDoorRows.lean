/-
  NARROWER THAN 'FOR EVERY INPUT', by the rows' own cells (each row's printed sentence says how): FnExactNormalForm: laid · FnExactBalanceOf: laid · FnExactShiftsOf: laid · FnExactSpectrumOf: laid · FnExactNearestSum: laid · FnExactNonlinearityOf: laid · FnExactFixedShifts: laid · FnExactDegreeOf: laid · FnExactImmunityOf: laid · FnExactCombinedWidth: laid · FnExactAnnihilatorDegree: laid · FnExactCombineBits: laid.
  DERIVED. THE GIVEN ROWS OF THIS SEAT. 12 by the template 'for every input the law returns true; each argument reads behind the call as it read before'; 0 by the template 'total and deterministic' (their statements: YtgonnnjfefjnjaaDoorTotals.lean).
  GIVEN WITH THE SEED: the statements are not yours to turn. If you find one false, say at which input.
  Laid BY PROGRAM, IN A SANDBOX (cutbox-rows.mjs): the forced cells as the released guide's own fill.sh prints them over the translation 98e44ae62855037c… (all of the seat's roots in one cut). By AI agents, Wed Nov 11 2026. No macro, syntax, notation, axiom, sorry.
-/
import Derived.Test.YtgonnnjfefjnjaaDoorChecked
import GoSem.PinnedTables
import GoSem.Claim
import GoSem.ClaimJoined
import GoSem.ClaimMapViews
import Derived.JoinedTies
import Derived.KernelRfl
namespace Go.Proofs.YtgonnnjfefjnjaaDoor
/- THE CELL 'sum', in the pinned program and in every row, IS THE sha256 OF THE DUMP (.gsa) THAT YtgonnnjfefjnjaaDoorProg.lean LOADS. Nothing in Lean hashes anything: it is a label: what it is worth is what the hold of that sum in a sandbox is worth. -/
noncomputable def Tryd.pinned : Pinned := { name := "ytgonnnjfefjnjaadoor", sum := "98e44ae62855037cef8c6fecd8d289f855de0bf1479246fa852b156312395c3e", checked := Tryd.checked }
namespace Rows
def none {H : Type} : Left H := { results := [], args := [] }

/- WHAT THE LISTED PACKAGE-LEVEL VARIABLES READ AS WHEN THE CALL BEGINS. Each datum BY PROGRAM (the guide's laid-datum.mjs) off the statement by which the dump's own 'gosem.cut.vars' lays the variable. In a bare row this is a premise. The card (YtgonnnjfefjnjaaDoorCards.lean) ties it to the program's text. -/
def laid_unicode_utf8_acceptRanges {H : Type} : DataW H := .agg [.agg [.lit (.int .u8 128), .lit (.int .u8 191)], .agg [.lit (.int .u8 160), .lit (.int .u8 191)], .agg [.lit (.int .u8 128), .lit (.int .u8 159)], .agg [.lit (.int .u8 144), .lit (.int .u8 191)], .agg [.lit (.int .u8 128), .lit (.int .u8 143)], .agg [.lit (.int .u8 0), .lit (.int .u8 0)], .agg [.lit (.int .u8 0), .lit (.int .u8 0)], .agg [.lit (.int .u8 0), .lit (.int .u8 0)], .agg [.lit (.int .u8 0), .lit (.int .u8 0)], .agg [.lit (.int .u8 0), .lit (.int .u8 0)], .agg [.lit (.int .u8 0), .lit (.int .u8 0)], .agg [.lit (.int .u8 0), .lit (.int .u8 0)], .agg [.lit (.int .u8 0), .lit (.int .u8 0)], .agg [.lit (.int .u8 0), .lit (.int .u8 0)], .agg [.lit (.int .u8 0), .lit (.int .u8 0)], .agg [.lit (.int .u8 0), .lit (.int .u8 0)]]
/-- One of Go's own tables, pinned by name: the form's constant. -/
def laid_unicode_utf8_first : DataW Unit := Go.Pinned.utf8First

/-- 'laws.FnExactNormalForm': WHATEVER THE INPUT: true; the input reads as it did. -/
def fnExactNormalFormSpec : ChangeSpec := { name := "fnExactNormalForm", fn := fun _ => fun
  | [d] => { results := [.lit (.bool true)], args := [d] }
  | _ => none }
def fnExactNormalFormRow : OpenClaim := { program := "ytgonnnjfefjnjaadoor", sum := "98e44ae62855037cef8c6fecd8d289f855de0bf1479246fa852b156312395c3e", func := "loop.example/g01121/laws.FnExactNormalForm", spec := "fnExactNormalForm", inPlace := ["internal/bytealg.IndexByteString", "internal/bytealg.IndexString"], named := ["unicode/utf8.first", "unicode/utf8.acceptRanges", "internal/bytealg.MaxLen"], apart := false, laid := [("unicode/utf8.acceptRanges", laid_unicode_utf8_acceptRanges), ("unicode/utf8.first", laid_unicode_utf8_first)] }
def FnExactNormalFormSaid : Prop := fnExactNormalFormRow.holds Tryd.pinned (OpenSpec.ofChange fnExactNormalFormSpec)

/-- ITS FALSE NEIGHBOUR: 'it returns false'. Refute it at one input. -/
def fnExactNormalFormWrong : ChangeSpec := { name := "fnExactNormalForm", fn := fun _ => fun
  | [d] => { results := [.lit (.bool false)], args := [d] }
  | _ => none }
def FnExactNormalFormWrongFalsely : Prop := fnExactNormalFormRow.holds Tryd.pinned (OpenSpec.ofChange fnExactNormalFormWrong)

/-- 'laws.FnExactBalanceOf': WHATEVER THE INPUT: true; the input reads as it did. -/
def fnExactBalanceOfSpec : ChangeSpec := { name := "fnExactBalanceOf", fn := fun _ => fun
  | [d] => { results := [.lit (.bool true)], args := [d] }
  | _ => none }
def fnExactBalanceOfRow : OpenClaim := { program := "ytgonnnjfefjnjaadoor", sum := "98e44ae62855037cef8c6fecd8d289f855de0bf1479246fa852b156312395c3e", func := "loop.example/g01121/laws.FnExactBalanceOf", spec := "fnExactBalanceOf", inPlace := ["internal/bytealg.IndexByteString", "internal/bytealg.IndexString"], named := ["unicode/utf8.first", "unicode/utf8.acceptRanges", "internal/bytealg.MaxLen"], apart := false, laid := [("unicode/utf8.acceptRanges", laid_unicode_utf8_acceptRanges), ("unicode/utf8.first", laid_unicode_utf8_first)] }
def FnExactBalanceOfSaid : Prop := fnExactBalanceOfRow.holds Tryd.pinned (OpenSpec.ofChange fnExactBalanceOfSpec)

/-- ITS FALSE NEIGHBOUR: 'it returns false'. Refute it at one input. -/
def fnExactBalanceOfWrong : ChangeSpec := { name := "fnExactBalanceOf", fn := fun _ => fun
  | [d] => { results := [.lit (.bool false)], args := [d] }
  | _ => none }
def FnExactBalanceOfWrongFalsely : Prop := fnExactBalanceOfRow.holds Tryd.pinned (OpenSpec.ofChange fnExactBalanceOfWrong)

/-- 'laws.FnExactShiftsOf': WHATEVER THE INPUT: true; the input reads as it did. -/
def fnExactShiftsOfSpec : ChangeSpec := { name := "fnExactShiftsOf", fn := fun _ => fun
  | [d] => { results := [.lit (.bool true)], args := [d] }
  | _ => none }
def fnExactShiftsOfRow : OpenClaim := { program := "ytgonnnjfefjnjaadoor", sum := "98e44ae62855037cef8c6fecd8d289f855de0bf1479246fa852b156312395c3e", func := "loop.example/g01121/laws.FnExactShiftsOf", spec := "fnExactShiftsOf", inPlace := ["internal/bytealg.IndexByteString", "internal/bytealg.IndexString"], named := ["unicode/utf8.first", "unicode/utf8.acceptRanges", "internal/bytealg.MaxLen"], apart := false, laid := [("unicode/utf8.acceptRanges", laid_unicode_utf8_acceptRanges), ("unicode/utf8.first", laid_unicode_utf8_first)] }
def FnExactShiftsOfSaid : Prop := fnExactShiftsOfRow.holds Tryd.pinned (OpenSpec.ofChange fnExactShiftsOfSpec)

/-- ITS FALSE NEIGHBOUR: 'it returns false'. Refute it at one input. -/
def fnExactShiftsOfWrong : ChangeSpec := { name := "fnExactShiftsOf", fn := fun _ => fun
  | [d] => { results := [.lit (.bool false)], args := [d] }
  | _ => none }
def FnExactShiftsOfWrongFalsely : Prop := fnExactShiftsOfRow.holds Tryd.pinned (OpenSpec.ofChange fnExactShiftsOfWrong)

/-- 'laws.FnExactSpectrumOf': WHATEVER THE INPUT: true; the input reads as it did. -/
def fnExactSpectrumOfSpec : ChangeSpec := { name := "fnExactSpectrumOf", fn := fun _ => fun
  | [d] => { results := [.lit (.bool true)], args := [d] }
  | _ => none }
def fnExactSpectrumOfRow : OpenClaim := { program := "ytgonnnjfefjnjaadoor", sum := "98e44ae62855037cef8c6fecd8d289f855de0bf1479246fa852b156312395c3e", func := "loop.example/g01121/laws.FnExactSpectrumOf", spec := "fnExactSpectrumOf", inPlace := ["internal/bytealg.IndexByteString", "internal/bytealg.IndexString"], named := ["unicode/utf8.first", "unicode/utf8.acceptRanges", "internal/bytealg.MaxLen"], apart := false, laid := [("unicode/utf8.acceptRanges", laid_unicode_utf8_acceptRanges), ("unicode/utf8.first", laid_unicode_utf8_first)] }
def FnExactSpectrumOfSaid : Prop := fnExactSpectrumOfRow.holds Tryd.pinned (OpenSpec.ofChange fnExactSpectrumOfSpec)

/-- ITS FALSE NEIGHBOUR: 'it returns false'. Refute it at one input. -/
def fnExactSpectrumOfWrong : ChangeSpec := { name := "fnExactSpectrumOf", fn := fun _ => fun
  | [d] => { results := [.lit (.bool false)], args := [d] }
  | _ => none }
def FnExactSpectrumOfWrongFalsely : Prop := fnExactSpectrumOfRow.holds Tryd.pinned (OpenSpec.ofChange fnExactSpectrumOfWrong)

/-- 'laws.FnExactNearestSum': WHATEVER THE INPUT: true; the input reads as it did. -/
def fnExactNearestSumSpec : ChangeSpec := { name := "fnExactNearestSum", fn := fun _ => fun
  | [d] => { results := [.lit (.bool true)], args := [d] }
  | _ => none }
def fnExactNearestSumRow : OpenClaim := { program := "ytgonnnjfefjnjaadoor", sum := "98e44ae62855037cef8c6fecd8d289f855de0bf1479246fa852b156312395c3e", func := "loop.example/g01121/laws.FnExactNearestSum", spec := "fnExactNearestSum", inPlace := ["internal/bytealg.IndexByteString", "internal/bytealg.IndexString"], named := ["unicode/utf8.first", "unicode/utf8.acceptRanges", "internal/bytealg.MaxLen"], apart := false, laid := [("unicode/utf8.acceptRanges", laid_unicode_utf8_acceptRanges), ("unicode/utf8.first", laid_unicode_utf8_first)] }
def FnExactNearestSumSaid : Prop := fnExactNearestSumRow.holds Tryd.pinned (OpenSpec.ofChange fnExactNearestSumSpec)

/-- ITS FALSE NEIGHBOUR: 'it returns false'. Refute it at one input. -/
def fnExactNearestSumWrong : ChangeSpec := { name := "fnExactNearestSum", fn := fun _ => fun
  | [d] => { results := [.lit (.bool false)], args := [d] }
  | _ => none }
def FnExactNearestSumWrongFalsely : Prop := fnExactNearestSumRow.holds Tryd.pinned (OpenSpec.ofChange fnExactNearestSumWrong)

/-- 'laws.FnExactNonlinearityOf': WHATEVER THE INPUT: true; the input reads as it did. -/
def fnExactNonlinearityOfSpec : ChangeSpec := { name := "fnExactNonlinearityOf", fn := fun _ => fun
  | [d] => { results := [.lit (.bool true)], args := [d] }
  | _ => none }
def fnExactNonlinearityOfRow : OpenClaim := { program := "ytgonnnjfefjnjaadoor", sum := "98e44ae62855037cef8c6fecd8d289f855de0bf1479246fa852b156312395c3e", func := "loop.example/g01121/laws.FnExactNonlinearityOf", spec := "fnExactNonlinearityOf", inPlace := ["internal/bytealg.IndexByteString", "internal/bytealg.IndexString"], named := ["unicode/utf8.first", "unicode/utf8.acceptRanges", "internal/bytealg.MaxLen"], apart := false, laid := [("unicode/utf8.acceptRanges", laid_unicode_utf8_acceptRanges), ("unicode/utf8.first", laid_unicode_utf8_first)] }
def FnExactNonlinearityOfSaid : Prop := fnExactNonlinearityOfRow.holds Tryd.pinned (OpenSpec.ofChange fnExactNonlinearityOfSpec)

/-- ITS FALSE NEIGHBOUR: 'it returns false'. Refute it at one input. -/
def fnExactNonlinearityOfWrong : ChangeSpec := { name := "fnExactNonlinearityOf", fn := fun _ => fun
  | [d] => { results := [.lit (.bool false)], args := [d] }
  | _ => none }
def FnExactNonlinearityOfWrongFalsely : Prop := fnExactNonlinearityOfRow.holds Tryd.pinned (OpenSpec.ofChange fnExactNonlinearityOfWrong)

/-- 'laws.FnExactFixedShifts': WHATEVER THE INPUT: true; the input reads as it did. -/
def fnExactFixedShiftsSpec : ChangeSpec := { name := "fnExactFixedShifts", fn := fun _ => fun
  | [d] => { results := [.lit (.bool true)], args := [d] }
  | _ => none }
def fnExactFixedShiftsRow : OpenClaim := { program := "ytgonnnjfefjnjaadoor", sum := "98e44ae62855037cef8c6fecd8d289f855de0bf1479246fa852b156312395c3e", func := "loop.example/g01121/laws.FnExactFixedShifts", spec := "fnExactFixedShifts", inPlace := ["internal/bytealg.IndexByteString", "internal/bytealg.IndexString"], named := ["unicode/utf8.first", "unicode/utf8.acceptRanges", "internal/bytealg.MaxLen"], apart := false, laid := [("unicode/utf8.acceptRanges", laid_unicode_utf8_acceptRanges), ("unicode/utf8.first", laid_unicode_utf8_first)] }
def FnExactFixedShiftsSaid : Prop := fnExactFixedShiftsRow.holds Tryd.pinned (OpenSpec.ofChange fnExactFixedShiftsSpec)

/-- ITS FALSE NEIGHBOUR: 'it returns false'. Refute it at one input. -/
def fnExactFixedShiftsWrong : ChangeSpec := { name := "fnExactFixedShifts", fn := fun _ => fun
  | [d] => { results := [.lit (.bool false)], args := [d] }
  | _ => none }
def FnExactFixedShiftsWrongFalsely : Prop := fnExactFixedShiftsRow.holds Tryd.pinned (OpenSpec.ofChange fnExactFixedShiftsWrong)

/-- 'laws.FnExactDegreeOf': WHATEVER THE INPUT: true; the input reads as it did. -/
def fnExactDegreeOfSpec : ChangeSpec := { name := "fnExactDegreeOf", fn := fun _ => fun
  | [d] => { results := [.lit (.bool true)], args := [d] }
  | _ => none }
def fnExactDegreeOfRow : OpenClaim := { program := "ytgonnnjfefjnjaadoor", sum := "98e44ae62855037cef8c6fecd8d289f855de0bf1479246fa852b156312395c3e", func := "loop.example/g01121/laws.FnExactDegreeOf", spec := "fnExactDegreeOf", inPlace := ["internal/bytealg.IndexByteString", "internal/bytealg.IndexString"], named := ["unicode/utf8.first", "unicode/utf8.acceptRanges", "internal/bytealg.MaxLen"], apart := false, laid := [("unicode/utf8.acceptRanges", laid_unicode_utf8_acceptRanges), ("unicode/utf8.first", laid_unicode_utf8_first)] }
def FnExactDegreeOfSaid : Prop := fnExactDegreeOfRow.holds Tryd.pinned (OpenSpec.ofChange fnExactDegreeOfSpec)

/-- ITS FALSE NEIGHBOUR: 'it returns false'. Refute it at one input. -/
def fnExactDegreeOfWrong : ChangeSpec := { name := "fnExactDegreeOf", fn := fun _ => fun
  | [d] => { results := [.lit (.bool false)], args := [d] }
  | _ => none }
def FnExactDegreeOfWrongFalsely : Prop := fnExactDegreeOfRow.holds Tryd.pinned (OpenSpec.ofChange fnExactDegreeOfWrong)

/-- 'laws.FnExactImmunityOf': WHATEVER THE INPUT: true; the input reads as it did. -/
def fnExactImmunityOfSpec : ChangeSpec := { name := "fnExactImmunityOf", fn := fun _ => fun
  | [d] => { results := [.lit (.bool true)], args := [d] }
  | _ => none }
def fnExactImmunityOfRow : OpenClaim := { program := "ytgonnnjfefjnjaadoor", sum := "98e44ae62855037cef8c6fecd8d289f855de0bf1479246fa852b156312395c3e", func := "loop.example/g01121/laws.FnExactImmunityOf", spec := "fnExactImmunityOf", inPlace := ["internal/bytealg.IndexByteString", "internal/bytealg.IndexString"], named := ["unicode/utf8.first", "unicode/utf8.acceptRanges", "internal/bytealg.MaxLen"], apart := false, laid := [("unicode/utf8.acceptRanges", laid_unicode_utf8_acceptRanges), ("unicode/utf8.first", laid_unicode_utf8_first)] }
def FnExactImmunityOfSaid : Prop := fnExactImmunityOfRow.holds Tryd.pinned (OpenSpec.ofChange fnExactImmunityOfSpec)

/-- ITS FALSE NEIGHBOUR: 'it returns false'. Refute it at one input. -/
def fnExactImmunityOfWrong : ChangeSpec := { name := "fnExactImmunityOf", fn := fun _ => fun
  | [d] => { results := [.lit (.bool false)], args := [d] }
  | _ => none }
def FnExactImmunityOfWrongFalsely : Prop := fnExactImmunityOfRow.holds Tryd.pinned (OpenSpec.ofChange fnExactImmunityOfWrong)

/-- 'laws.FnExactCombinedWidth': WHATEVER THE INPUT: true; the input reads as it did. -/
def fnExactCombinedWidthSpec : ChangeSpec := { name := "fnExactCombinedWidth", fn := fun _ => fun
  | [d1, d2] => { results := [.lit (.bool true)], args := [d1, d2] }
  | _ => none }
def fnExactCombinedWidthRow : OpenClaim := { program := "ytgonnnjfefjnjaadoor", sum := "98e44ae62855037cef8c6fecd8d289f855de0bf1479246fa852b156312395c3e", func := "loop.example/g01121/laws.FnExactCombinedWidth", spec := "fnExactCombinedWidth", inPlace := ["internal/bytealg.IndexByteString", "internal/bytealg.IndexString"], unfollowed := true, recurses := true, named := ["unicode/utf8.first", "unicode/utf8.acceptRanges", "internal/bytealg.MaxLen"], apart := false, laid := [("unicode/utf8.acceptRanges", laid_unicode_utf8_acceptRanges), ("unicode/utf8.first", laid_unicode_utf8_first)] }
def FnExactCombinedWidthSaid : Prop := fnExactCombinedWidthRow.holds Tryd.pinned (OpenSpec.ofChange fnExactCombinedWidthSpec)

/-- ITS FALSE NEIGHBOUR: 'it returns false'. Refute it at one input. -/
def fnExactCombinedWidthWrong : ChangeSpec := { name := "fnExactCombinedWidth", fn := fun _ => fun
  | [d1, d2] => { results := [.lit (.bool false)], args := [d1, d2] }
  | _ => none }
def FnExactCombinedWidthWrongFalsely : Prop := fnExactCombinedWidthRow.holds Tryd.pinned (OpenSpec.ofChange fnExactCombinedWidthWrong)

/-- 'laws.FnExactAnnihilatorDegree': WHATEVER THE INPUT: true; the input reads as it did. -/
def fnExactAnnihilatorDegreeSpec : ChangeSpec := { name := "fnExactAnnihilatorDegree", fn := fun _ => fun
  | [d] => { results := [.lit (.bool true)], args := [d] }
  | _ => none }
def fnExactAnnihilatorDegreeRow : OpenClaim := { program := "ytgonnnjfefjnjaadoor", sum := "98e44ae62855037cef8c6fecd8d289f855de0bf1479246fa852b156312395c3e", func := "loop.example/g01121/laws.FnExactAnnihilatorDegree", spec := "fnExactAnnihilatorDegree", inPlace := ["internal/bytealg.IndexByteString", "internal/bytealg.IndexString"], named := ["unicode/utf8.first", "unicode/utf8.acceptRanges", "internal/bytealg.MaxLen"], apart := false, laid := [("unicode/utf8.acceptRanges", laid_unicode_utf8_acceptRanges), ("unicode/utf8.first", laid_unicode_utf8_first)] }
def FnExactAnnihilatorDegreeSaid : Prop := fnExactAnnihilatorDegreeRow.holds Tryd.pinned (OpenSpec.ofChange fnExactAnnihilatorDegreeSpec)

/-- ITS FALSE NEIGHBOUR: 'it returns false'. Refute it at one input. -/
def fnExactAnnihilatorDegreeWrong : ChangeSpec := { name := "fnExactAnnihilatorDegree", fn := fun _ => fun
  | [d] => { results := [.lit (.bool false)], args := [d] }
  | _ => none }
def FnExactAnnihilatorDegreeWrongFalsely : Prop := fnExactAnnihilatorDegreeRow.holds Tryd.pinned (OpenSpec.ofChange fnExactAnnihilatorDegreeWrong)

/-- 'laws.FnExactCombineBits': WHATEVER THE INPUT: true; the input reads as it did. -/
def fnExactCombineBitsSpec : ChangeSpec := { name := "fnExactCombineBits", fn := fun _ => fun
  | [d1, d2] => { results := [.lit (.bool true)], args := [d1, d2] }
  | _ => none }
def fnExactCombineBitsRow : OpenClaim := { program := "ytgonnnjfefjnjaadoor", sum := "98e44ae62855037cef8c6fecd8d289f855de0bf1479246fa852b156312395c3e", func := "loop.example/g01121/laws.FnExactCombineBits", spec := "fnExactCombineBits", inPlace := ["internal/bytealg.IndexByteString", "internal/bytealg.IndexString", "internal/abi.NoEscape"], unfollowed := true, recurses := true, named := ["unicode/utf8.first", "unicode/utf8.acceptRanges", "internal/bytealg.MaxLen"], apart := false, laid := [("unicode/utf8.acceptRanges", laid_unicode_utf8_acceptRanges), ("unicode/utf8.first", laid_unicode_utf8_first)] }
def FnExactCombineBitsSaid : Prop := fnExactCombineBitsRow.holds Tryd.pinned (OpenSpec.ofChange fnExactCombineBitsSpec)

/-- ITS FALSE NEIGHBOUR: 'it returns false'. Refute it at one input. -/
def fnExactCombineBitsWrong : ChangeSpec := { name := "fnExactCombineBits", fn := fun _ => fun
  | [d1, d2] => { results := [.lit (.bool false)], args := [d1, d2] }
  | _ => none }
def FnExactCombineBitsWrongFalsely : Prop := fnExactCombineBitsRow.holds Tryd.pinned (OpenSpec.ofChange fnExactCombineBitsWrong)

/- THE SECOND FORM. 'bulk': how many values and letters a reading holds, each counted each time it is reached (what is shared counts as often as it is met; a slice's spare places count too). A statement '..UptoSaid' is the law's where the arguments, and the package variables that the reading takes, are together of bulk at most 1048576: NARROWER than '..Said'. Prove '..Said' where nothing that the law and all that it calls make is longer than what came in: it says more and counts as full. Else prove '..UptoSaid'. A law counts once. -/
mutual
def uptoBulk {H : Type} : DataW H → Nat
  | .lit (.string bytes) => bytes.length + 1
  | .lit _ => 1
  | .nil => 1
  | .ptr d => uptoBulk d + 1
  | .slice elems spare => uptoBulkAll elems + uptoBulkAll spare + 1
  | .agg parts => uptoBulkAll parts + 1
  | .iface _ d => uptoBulk d + 1
  | .map entries => uptoBulkEntries entries + 1
  | .held _ => 1
def uptoBulkAll {H : Type} : List (DataW H) → Nat
  | [] => 0
  | d :: r => uptoBulk d + uptoBulkAll r
def uptoBulkEntries {H : Type} : List (Lit × DataW H) → Nat
  | [] => 0
  | x :: r => uptoBulkEntry x + uptoBulkEntries r
def uptoBulkEntry {H : Type} : Lit × DataW H → Nat
  | (.string bytes, d) => bytes.length + uptoBulk d + 1
  | (_, d) => uptoBulk d + 1
 end
def uptoSmall : (H : Type) → List (DataW H) → Bool := fun _ ds => decide (uptoBulkAll ds ≤ 1048576)
def OpenSpec.upto (s : _root_.Go.ChangeSpec) : _root_.Go.OpenSpec := { _root_.Go.OpenSpec.ofChange s with cond := some uptoSmall }

/-- 'laws.FnExactNormalForm', WHERE WHAT IT READS IS OF BULK AT MOST 1048576: true; the input reads as it did. -/
def fnExactNormalFormUptoRow : OpenClaim := { program := "ytgonnnjfefjnjaadoor", sum := "98e44ae62855037cef8c6fecd8d289f855de0bf1479246fa852b156312395c3e", func := "loop.example/g01121/laws.FnExactNormalForm", spec := "fnExactNormalForm", inPlace := ["internal/bytealg.IndexByteString", "internal/bytealg.IndexString"], named := ["unicode/utf8.first", "unicode/utf8.acceptRanges", "internal/bytealg.MaxLen"], apart := false, laid := [("unicode/utf8.acceptRanges", laid_unicode_utf8_acceptRanges), ("unicode/utf8.first", laid_unicode_utf8_first)], narrowed := true }
def FnExactNormalFormUptoSaid : Prop := fnExactNormalFormUptoRow.holds Tryd.pinned (OpenSpec.upto fnExactNormalFormSpec)

/-- 'laws.FnExactBalanceOf', WHERE WHAT IT READS IS OF BULK AT MOST 1048576: true; the input reads as it did. -/
def fnExactBalanceOfUptoRow : OpenClaim := { program := "ytgonnnjfefjnjaadoor", sum := "98e44ae62855037cef8c6fecd8d289f855de0bf1479246fa852b156312395c3e", func := "loop.example/g01121/laws.FnExactBalanceOf", spec := "fnExactBalanceOf", inPlace := ["internal/bytealg.IndexByteString", "internal/bytealg.IndexString"], named := ["unicode/utf8.first", "unicode/utf8.acceptRanges", "internal/bytealg.MaxLen"], apart := false, laid := [("unicode/utf8.acceptRanges", laid_unicode_utf8_acceptRanges), ("unicode/utf8.first", laid_unicode_utf8_first)], narrowed := true }
def FnExactBalanceOfUptoSaid : Prop := fnExactBalanceOfUptoRow.holds Tryd.pinned (OpenSpec.upto fnExactBalanceOfSpec)

/-- 'laws.FnExactShiftsOf', WHERE WHAT IT READS IS OF BULK AT MOST 1048576: true; the input reads as it did. -/
def fnExactShiftsOfUptoRow : OpenClaim := { program := "ytgonnnjfefjnjaadoor", sum := "98e44ae62855037cef8c6fecd8d289f855de0bf1479246fa852b156312395c3e", func := "loop.example/g01121/laws.FnExactShiftsOf", spec := "fnExactShiftsOf", inPlace := ["internal/bytealg.IndexByteString", "internal/bytealg.IndexString"], named := ["unicode/utf8.first", "unicode/utf8.acceptRanges", "internal/bytealg.MaxLen"], apart := false, laid := [("unicode/utf8.acceptRanges", laid_unicode_utf8_acceptRanges), ("unicode/utf8.first", laid_unicode_utf8_first)], narrowed := true }
def FnExactShiftsOfUptoSaid : Prop := fnExactShiftsOfUptoRow.holds Tryd.pinned (OpenSpec.upto fnExactShiftsOfSpec)

/-- 'laws.FnExactSpectrumOf', WHERE WHAT IT READS IS OF BULK AT MOST 1048576: true; the input reads as it did. -/
def fnExactSpectrumOfUptoRow : OpenClaim := { program := "ytgonnnjfefjnjaadoor", sum := "98e44ae62855037cef8c6fecd8d289f855de0bf1479246fa852b156312395c3e", func := "loop.example/g01121/laws.FnExactSpectrumOf", spec := "fnExactSpectrumOf", inPlace := ["internal/bytealg.IndexByteString", "internal/bytealg.IndexString"], named := ["unicode/utf8.first", "unicode/utf8.acceptRanges", "internal/bytealg.MaxLen"], apart := false, laid := [("unicode/utf8.acceptRanges", laid_unicode_utf8_acceptRanges), ("unicode/utf8.first", laid_unicode_utf8_first)], narrowed := true }
def FnExactSpectrumOfUptoSaid : Prop := fnExactSpectrumOfUptoRow.holds Tryd.pinned (OpenSpec.upto fnExactSpectrumOfSpec)

/-- 'laws.FnExactNearestSum', WHERE WHAT IT READS IS OF BULK AT MOST 1048576: true; the input reads as it did. -/
def fnExactNearestSumUptoRow : OpenClaim := { program := "ytgonnnjfefjnjaadoor", sum := "98e44ae62855037cef8c6fecd8d289f855de0bf1479246fa852b156312395c3e", func := "loop.example/g01121/laws.FnExactNearestSum", spec := "fnExactNearestSum", inPlace := ["internal/bytealg.IndexByteString", "internal/bytealg.IndexString"], named := ["unicode/utf8.first", "unicode/utf8.acceptRanges", "internal/bytealg.MaxLen"], apart := false, laid := [("unicode/utf8.acceptRanges", laid_unicode_utf8_acceptRanges), ("unicode/utf8.first", laid_unicode_utf8_first)], narrowed := true }
def FnExactNearestSumUptoSaid : Prop := fnExactNearestSumUptoRow.holds Tryd.pinned (OpenSpec.upto fnExactNearestSumSpec)

/-- 'laws.FnExactNonlinearityOf', WHERE WHAT IT READS IS OF BULK AT MOST 1048576: true; the input reads as it did. -/
def fnExactNonlinearityOfUptoRow : OpenClaim := { program := "ytgonnnjfefjnjaadoor", sum := "98e44ae62855037cef8c6fecd8d289f855de0bf1479246fa852b156312395c3e", func := "loop.example/g01121/laws.FnExactNonlinearityOf", spec := "fnExactNonlinearityOf", inPlace := ["internal/bytealg.IndexByteString", "internal/bytealg.IndexString"], named := ["unicode/utf8.first", "unicode/utf8.acceptRanges", "internal/bytealg.MaxLen"], apart := false, laid := [("unicode/utf8.acceptRanges", laid_unicode_utf8_acceptRanges), ("unicode/utf8.first", laid_unicode_utf8_first)], narrowed := true }
def FnExactNonlinearityOfUptoSaid : Prop := fnExactNonlinearityOfUptoRow.holds Tryd.pinned (OpenSpec.upto fnExactNonlinearityOfSpec)

/-- 'laws.FnExactFixedShifts', WHERE WHAT IT READS IS OF BULK AT MOST 1048576: true; the input reads as it did. -/
def fnExactFixedShiftsUptoRow : OpenClaim := { program := "ytgonnnjfefjnjaadoor", sum := "98e44ae62855037cef8c6fecd8d289f855de0bf1479246fa852b156312395c3e", func := "loop.example/g01121/laws.FnExactFixedShifts", spec := "fnExactFixedShifts", inPlace := ["internal/bytealg.IndexByteString", "internal/bytealg.IndexString"], named := ["unicode/utf8.first", "unicode/utf8.acceptRanges", "internal/bytealg.MaxLen"], apart := false, laid := [("unicode/utf8.acceptRanges", laid_unicode_utf8_acceptRanges), ("unicode/utf8.first", laid_unicode_utf8_first)], narrowed := true }
def FnExactFixedShiftsUptoSaid : Prop := fnExactFixedShiftsUptoRow.holds Tryd.pinned (OpenSpec.upto fnExactFixedShiftsSpec)

/-- 'laws.FnExactDegreeOf', WHERE WHAT IT READS IS OF BULK AT MOST 1048576: true; the input reads as it did. -/
def fnExactDegreeOfUptoRow : OpenClaim := { program := "ytgonnnjfefjnjaadoor", sum := "98e44ae62855037cef8c6fecd8d289f855de0bf1479246fa852b156312395c3e", func := "loop.example/g01121/laws.FnExactDegreeOf", spec := "fnExactDegreeOf", inPlace := ["internal/bytealg.IndexByteString", "internal/bytealg.IndexString"], named := ["unicode/utf8.first", "unicode/utf8.acceptRanges", "internal/bytealg.MaxLen"], apart := false, laid := [("unicode/utf8.acceptRanges", laid_unicode_utf8_acceptRanges), ("unicode/utf8.first", laid_unicode_utf8_first)], narrowed := true }
def FnExactDegreeOfUptoSaid : Prop := fnExactDegreeOfUptoRow.holds Tryd.pinned (OpenSpec.upto fnExactDegreeOfSpec)

/-- 'laws.FnExactImmunityOf', WHERE WHAT IT READS IS OF BULK AT MOST 1048576: true; the input reads as it did. -/
def fnExactImmunityOfUptoRow : OpenClaim := { program := "ytgonnnjfefjnjaadoor", sum := "98e44ae62855037cef8c6fecd8d289f855de0bf1479246fa852b156312395c3e", func := "loop.example/g01121/laws.FnExactImmunityOf", spec := "fnExactImmunityOf", inPlace := ["internal/bytealg.IndexByteString", "internal/bytealg.IndexString"], named := ["unicode/utf8.first", "unicode/utf8.acceptRanges", "internal/bytealg.MaxLen"], apart := false, laid := [("unicode/utf8.acceptRanges", laid_unicode_utf8_acceptRanges), ("unicode/utf8.first", laid_unicode_utf8_first)], narrowed := true }
def FnExactImmunityOfUptoSaid : Prop := fnExactImmunityOfUptoRow.holds Tryd.pinned (OpenSpec.upto fnExactImmunityOfSpec)

/-- 'laws.FnExactCombinedWidth', WHERE WHAT IT READS IS OF BULK AT MOST 1048576: true; the input reads as it did. -/
def fnExactCombinedWidthUptoRow : OpenClaim := { program := "ytgonnnjfefjnjaadoor", sum := "98e44ae62855037cef8c6fecd8d289f855de0bf1479246fa852b156312395c3e", func := "loop.example/g01121/laws.FnExactCombinedWidth", spec := "fnExactCombinedWidth", inPlace := ["internal/bytealg.IndexByteString", "internal/bytealg.IndexString"], unfollowed := true, recurses := true, named := ["unicode/utf8.first", "unicode/utf8.acceptRanges", "internal/bytealg.MaxLen"], apart := false, laid := [("unicode/utf8.acceptRanges", laid_unicode_utf8_acceptRanges), ("unicode/utf8.first", laid_unicode_utf8_first)], narrowed := true }
def FnExactCombinedWidthUptoSaid : Prop := fnExactCombinedWidthUptoRow.holds Tryd.pinned (OpenSpec.upto fnExactCombinedWidthSpec)

/-- 'laws.FnExactAnnihilatorDegree', WHERE WHAT IT READS IS OF BULK AT MOST 1048576: true; the input reads as it did. -/
def fnExactAnnihilatorDegreeUptoRow : OpenClaim := { program := "ytgonnnjfefjnjaadoor", sum := "98e44ae62855037cef8c6fecd8d289f855de0bf1479246fa852b156312395c3e", func := "loop.example/g01121/laws.FnExactAnnihilatorDegree", spec := "fnExactAnnihilatorDegree", inPlace := ["internal/bytealg.IndexByteString", "internal/bytealg.IndexString"], named := ["unicode/utf8.first", "unicode/utf8.acceptRanges", "internal/bytealg.MaxLen"], apart := false, laid := [("unicode/utf8.acceptRanges", laid_unicode_utf8_acceptRanges), ("unicode/utf8.first", laid_unicode_utf8_first)], narrowed := true }
def FnExactAnnihilatorDegreeUptoSaid : Prop := fnExactAnnihilatorDegreeUptoRow.holds Tryd.pinned (OpenSpec.upto fnExactAnnihilatorDegreeSpec)

/-- 'laws.FnExactCombineBits', WHERE WHAT IT READS IS OF BULK AT MOST 1048576: true; the input reads as it did. -/
def fnExactCombineBitsUptoRow : OpenClaim := { program := "ytgonnnjfefjnjaadoor", sum := "98e44ae62855037cef8c6fecd8d289f855de0bf1479246fa852b156312395c3e", func := "loop.example/g01121/laws.FnExactCombineBits", spec := "fnExactCombineBits", inPlace := ["internal/bytealg.IndexByteString", "internal/bytealg.IndexString", "internal/abi.NoEscape"], unfollowed := true, recurses := true, named := ["unicode/utf8.first", "unicode/utf8.acceptRanges", "internal/bytealg.MaxLen"], apart := false, laid := [("unicode/utf8.acceptRanges", laid_unicode_utf8_acceptRanges), ("unicode/utf8.first", laid_unicode_utf8_first)], narrowed := true }
def FnExactCombineBitsUptoSaid : Prop := fnExactCombineBitsUptoRow.holds Tryd.pinned (OpenSpec.upto fnExactCombineBitsSpec)

end Rows
end Go.Proofs.YtgonnnjfefjnjaaDoor
