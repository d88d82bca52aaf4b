/-
  NARROWER THAN 'FOR EVERY INPUT', by the rows' own cells (each row's printed sentence says how): FnExactImmunityOf: laid · FnExactCombinedWidth: laid · FnExactCombineBits: laid · FnExactAnnihilatorDegree: laid · FnSquares: laid · FnParseval: laid · FnImmunity: laid · FnNormalForm: laid · FnExactCountPattern: laid · FnExactShrinkBits: laid · FnExactLongestRun: laid.
  DERIVED. THE GIVEN ROWS OF THIS SEAT. 11 by the template 'for every input the law returns true; each argument reads behind the call as it read before'; 0 by the template 'total and deterministic' (their statements: YtnkmoeehmdbkkaaDoorTotals.lean).
  GIVEN WITH THE SEED: the statements are not yours to turn. If you find one false, say at which input.
  Laid BY PROGRAM, IN A SANDBOX (cutbox-rows.mjs): the forced cells as the released guide's own fill.sh prints them over the translation cfc91c8cba10694d… (all of the seat's roots in one cut). By AI agents, Wed Nov 11 2026. No macro, syntax, notation, axiom, sorry.
-/
import Derived.Test.YtnkmoeehmdbkkaaDoorChecked
import GoSem.PinnedTables
import GoSem.Claim
import GoSem.ClaimJoined
import GoSem.ClaimMapViews
import Derived.JoinedTies
import Derived.KernelRfl
namespace Go.Proofs.YtnkmoeehmdbkkaaDoor
/- THE CELL 'sum', in the pinned program and in every row, IS THE sha256 OF THE DUMP (.gsa) THAT YtnkmoeehmdbkkaaDoorProg.lean LOADS. Nothing in Lean hashes anything: it is a label: what it is worth is what the hold of that sum in a sandbox is worth. -/
noncomputable def Tryd.pinned : Pinned := { name := "ytnkmoeehmdbkkaadoor", sum := "cfc91c8cba10694dc6751d2cda607adec001588c9878a9411c170307b98aabc2", checked := Tryd.checked }
namespace Rows
def none {H : Type} : Left H := { results := [], args := [] }

/- WHAT THE LISTED PACKAGE-LEVEL VARIABLES READ AS WHEN THE CALL BEGINS. Each datum BY PROGRAM (the guide's laid-datum.mjs) off the statement by which the dump's own 'gosem.cut.vars' lays the variable. In a bare row this is a premise. The card (YtnkmoeehmdbkkaaDoorCards.lean) ties it to the program's text. -/
def laid_unicode_utf8_acceptRanges {H : Type} : DataW H := .agg [.agg [.lit (.int .u8 128), .lit (.int .u8 191)], .agg [.lit (.int .u8 160), .lit (.int .u8 191)], .agg [.lit (.int .u8 128), .lit (.int .u8 159)], .agg [.lit (.int .u8 144), .lit (.int .u8 191)], .agg [.lit (.int .u8 128), .lit (.int .u8 143)], .agg [.lit (.int .u8 0), .lit (.int .u8 0)], .agg [.lit (.int .u8 0), .lit (.int .u8 0)], .agg [.lit (.int .u8 0), .lit (.int .u8 0)], .agg [.lit (.int .u8 0), .lit (.int .u8 0)], .agg [.lit (.int .u8 0), .lit (.int .u8 0)], .agg [.lit (.int .u8 0), .lit (.int .u8 0)], .agg [.lit (.int .u8 0), .lit (.int .u8 0)], .agg [.lit (.int .u8 0), .lit (.int .u8 0)], .agg [.lit (.int .u8 0), .lit (.int .u8 0)], .agg [.lit (.int .u8 0), .lit (.int .u8 0)], .agg [.lit (.int .u8 0), .lit (.int .u8 0)]]
/-- One of Go's own tables, pinned by name: the form's constant. -/
def laid_unicode_utf8_first : DataW Unit := Go.Pinned.utf8First

/-- 'laws.FnExactImmunityOf': WHATEVER THE INPUT: true; the input reads as it did. -/
def fnExactImmunityOfSpec : ChangeSpec := { name := "fnExactImmunityOf", fn := fun _ => fun
  | [d] => { results := [.lit (.bool true)], args := [d] }
  | _ => none }
def fnExactImmunityOfRow : OpenClaim := { program := "ytnkmoeehmdbkkaadoor", sum := "cfc91c8cba10694dc6751d2cda607adec001588c9878a9411c170307b98aabc2", func := "loop.example/g01121/laws.FnExactImmunityOf", spec := "fnExactImmunityOf", inPlace := ["internal/bytealg.IndexByteString", "internal/bytealg.IndexString"], named := ["unicode/utf8.first", "unicode/utf8.acceptRanges", "internal/bytealg.MaxLen"], apart := false, laid := [("unicode/utf8.acceptRanges", laid_unicode_utf8_acceptRanges), ("unicode/utf8.first", laid_unicode_utf8_first)] }
def FnExactImmunityOfSaid : Prop := fnExactImmunityOfRow.holds Tryd.pinned (OpenSpec.ofChange fnExactImmunityOfSpec)

/-- ITS FALSE NEIGHBOUR: 'it returns false'. Refute it at one input. -/
def fnExactImmunityOfWrong : ChangeSpec := { name := "fnExactImmunityOf", fn := fun _ => fun
  | [d] => { results := [.lit (.bool false)], args := [d] }
  | _ => none }
def FnExactImmunityOfWrongFalsely : Prop := fnExactImmunityOfRow.holds Tryd.pinned (OpenSpec.ofChange fnExactImmunityOfWrong)

/-- 'laws.FnExactCombinedWidth': WHATEVER THE INPUT: true; the input reads as it did. -/
def fnExactCombinedWidthSpec : ChangeSpec := { name := "fnExactCombinedWidth", fn := fun _ => fun
  | [d1, d2] => { results := [.lit (.bool true)], args := [d1, d2] }
  | _ => none }
def fnExactCombinedWidthRow : OpenClaim := { program := "ytnkmoeehmdbkkaadoor", sum := "cfc91c8cba10694dc6751d2cda607adec001588c9878a9411c170307b98aabc2", func := "loop.example/g01121/laws.FnExactCombinedWidth", spec := "fnExactCombinedWidth", inPlace := ["internal/bytealg.IndexByteString", "internal/bytealg.IndexString"], unfollowed := true, recurses := true, named := ["unicode/utf8.first", "unicode/utf8.acceptRanges", "internal/bytealg.MaxLen"], apart := false, laid := [("unicode/utf8.acceptRanges", laid_unicode_utf8_acceptRanges), ("unicode/utf8.first", laid_unicode_utf8_first)] }
def FnExactCombinedWidthSaid : Prop := fnExactCombinedWidthRow.holds Tryd.pinned (OpenSpec.ofChange fnExactCombinedWidthSpec)

/-- ITS FALSE NEIGHBOUR: 'it returns false'. Refute it at one input. -/
def fnExactCombinedWidthWrong : ChangeSpec := { name := "fnExactCombinedWidth", fn := fun _ => fun
  | [d1, d2] => { results := [.lit (.bool false)], args := [d1, d2] }
  | _ => none }
def FnExactCombinedWidthWrongFalsely : Prop := fnExactCombinedWidthRow.holds Tryd.pinned (OpenSpec.ofChange fnExactCombinedWidthWrong)

/-- 'laws.FnExactCombineBits': WHATEVER THE INPUT: true; the input reads as it did. -/
def fnExactCombineBitsSpec : ChangeSpec := { name := "fnExactCombineBits", fn := fun _ => fun
  | [d1, d2] => { results := [.lit (.bool true)], args := [d1, d2] }
  | _ => none }
def fnExactCombineBitsRow : OpenClaim := { program := "ytnkmoeehmdbkkaadoor", sum := "cfc91c8cba10694dc6751d2cda607adec001588c9878a9411c170307b98aabc2", func := "loop.example/g01121/laws.FnExactCombineBits", spec := "fnExactCombineBits", inPlace := ["internal/bytealg.IndexByteString", "internal/bytealg.IndexString", "internal/abi.NoEscape"], unfollowed := true, recurses := true, named := ["unicode/utf8.first", "unicode/utf8.acceptRanges", "internal/bytealg.MaxLen"], apart := false, laid := [("unicode/utf8.acceptRanges", laid_unicode_utf8_acceptRanges), ("unicode/utf8.first", laid_unicode_utf8_first)] }
def FnExactCombineBitsSaid : Prop := fnExactCombineBitsRow.holds Tryd.pinned (OpenSpec.ofChange fnExactCombineBitsSpec)

/-- ITS FALSE NEIGHBOUR: 'it returns false'. Refute it at one input. -/
def fnExactCombineBitsWrong : ChangeSpec := { name := "fnExactCombineBits", fn := fun _ => fun
  | [d1, d2] => { results := [.lit (.bool false)], args := [d1, d2] }
  | _ => none }
def FnExactCombineBitsWrongFalsely : Prop := fnExactCombineBitsRow.holds Tryd.pinned (OpenSpec.ofChange fnExactCombineBitsWrong)

/-- 'laws.FnExactAnnihilatorDegree': WHATEVER THE INPUT: true; the input reads as it did. -/
def fnExactAnnihilatorDegreeSpec : ChangeSpec := { name := "fnExactAnnihilatorDegree", fn := fun _ => fun
  | [d] => { results := [.lit (.bool true)], args := [d] }
  | _ => none }
def fnExactAnnihilatorDegreeRow : OpenClaim := { program := "ytnkmoeehmdbkkaadoor", sum := "cfc91c8cba10694dc6751d2cda607adec001588c9878a9411c170307b98aabc2", func := "loop.example/g01121/laws.FnExactAnnihilatorDegree", spec := "fnExactAnnihilatorDegree", inPlace := ["internal/bytealg.IndexByteString", "internal/bytealg.IndexString"], named := ["unicode/utf8.first", "unicode/utf8.acceptRanges", "internal/bytealg.MaxLen"], apart := false, laid := [("unicode/utf8.acceptRanges", laid_unicode_utf8_acceptRanges), ("unicode/utf8.first", laid_unicode_utf8_first)] }
def FnExactAnnihilatorDegreeSaid : Prop := fnExactAnnihilatorDegreeRow.holds Tryd.pinned (OpenSpec.ofChange fnExactAnnihilatorDegreeSpec)

/-- ITS FALSE NEIGHBOUR: 'it returns false'. Refute it at one input. -/
def fnExactAnnihilatorDegreeWrong : ChangeSpec := { name := "fnExactAnnihilatorDegree", fn := fun _ => fun
  | [d] => { results := [.lit (.bool false)], args := [d] }
  | _ => none }
def FnExactAnnihilatorDegreeWrongFalsely : Prop := fnExactAnnihilatorDegreeRow.holds Tryd.pinned (OpenSpec.ofChange fnExactAnnihilatorDegreeWrong)

/-- 'laws.FnSquares': WHATEVER THE INPUT: true; the input reads as it did. -/
def fnSquaresSpec : ChangeSpec := { name := "fnSquares", fn := fun _ => fun
  | [d1, d2] => { results := [.lit (.bool true)], args := [d1, d2] }
  | _ => none }
def fnSquaresRow : OpenClaim := { program := "ytnkmoeehmdbkkaadoor", sum := "cfc91c8cba10694dc6751d2cda607adec001588c9878a9411c170307b98aabc2", func := "loop.example/g01121/laws.FnSquares", spec := "fnSquares", inPlace := ["internal/bytealg.IndexByteString", "internal/bytealg.IndexString"], named := ["unicode/utf8.first", "unicode/utf8.acceptRanges", "internal/bytealg.MaxLen"], apart := false, laid := [("unicode/utf8.acceptRanges", laid_unicode_utf8_acceptRanges), ("unicode/utf8.first", laid_unicode_utf8_first)] }
def FnSquaresSaid : Prop := fnSquaresRow.holds Tryd.pinned (OpenSpec.ofChange fnSquaresSpec)

/-- ITS FALSE NEIGHBOUR: 'it returns false'. Refute it at one input. -/
def fnSquaresWrong : ChangeSpec := { name := "fnSquares", fn := fun _ => fun
  | [d1, d2] => { results := [.lit (.bool false)], args := [d1, d2] }
  | _ => none }
def FnSquaresWrongFalsely : Prop := fnSquaresRow.holds Tryd.pinned (OpenSpec.ofChange fnSquaresWrong)

/-- 'laws.FnParseval': WHATEVER THE INPUT: true; the input reads as it did. -/
def fnParsevalSpec : ChangeSpec := { name := "fnParseval", fn := fun _ => fun
  | [d1, d2] => { results := [.lit (.bool true)], args := [d1, d2] }
  | _ => none }
def fnParsevalRow : OpenClaim := { program := "ytnkmoeehmdbkkaadoor", sum := "cfc91c8cba10694dc6751d2cda607adec001588c9878a9411c170307b98aabc2", func := "loop.example/g01121/laws.FnParseval", spec := "fnParseval", inPlace := ["internal/bytealg.IndexByteString", "internal/bytealg.IndexString"], named := ["unicode/utf8.first", "unicode/utf8.acceptRanges", "internal/bytealg.MaxLen"], apart := false, laid := [("unicode/utf8.acceptRanges", laid_unicode_utf8_acceptRanges), ("unicode/utf8.first", laid_unicode_utf8_first)] }
def FnParsevalSaid : Prop := fnParsevalRow.holds Tryd.pinned (OpenSpec.ofChange fnParsevalSpec)

/-- ITS FALSE NEIGHBOUR: 'it returns false'. Refute it at one input. -/
def fnParsevalWrong : ChangeSpec := { name := "fnParseval", fn := fun _ => fun
  | [d1, d2] => { results := [.lit (.bool false)], args := [d1, d2] }
  | _ => none }
def FnParsevalWrongFalsely : Prop := fnParsevalRow.holds Tryd.pinned (OpenSpec.ofChange fnParsevalWrong)

/-- 'laws.FnImmunity': WHATEVER THE INPUT: true; the input reads as it did. -/
def fnImmunitySpec : ChangeSpec := { name := "fnImmunity", fn := fun _ => fun
  | [d1, d2] => { results := [.lit (.bool true)], args := [d1, d2] }
  | _ => none }
def fnImmunityRow : OpenClaim := { program := "ytnkmoeehmdbkkaadoor", sum := "cfc91c8cba10694dc6751d2cda607adec001588c9878a9411c170307b98aabc2", func := "loop.example/g01121/laws.FnImmunity", spec := "fnImmunity", inPlace := ["internal/bytealg.IndexByteString", "internal/bytealg.IndexString"], named := ["unicode/utf8.first", "unicode/utf8.acceptRanges", "internal/bytealg.MaxLen"], apart := false, laid := [("unicode/utf8.acceptRanges", laid_unicode_utf8_acceptRanges), ("unicode/utf8.first", laid_unicode_utf8_first)] }
def FnImmunitySaid : Prop := fnImmunityRow.holds Tryd.pinned (OpenSpec.ofChange fnImmunitySpec)

/-- ITS FALSE NEIGHBOUR: 'it returns false'. Refute it at one input. -/
def fnImmunityWrong : ChangeSpec := { name := "fnImmunity", fn := fun _ => fun
  | [d1, d2] => { results := [.lit (.bool false)], args := [d1, d2] }
  | _ => none }
def FnImmunityWrongFalsely : Prop := fnImmunityRow.holds Tryd.pinned (OpenSpec.ofChange fnImmunityWrong)

/-- 'laws.FnNormalForm': WHATEVER THE INPUT: true; the input reads as it did. -/
def fnNormalFormSpec : ChangeSpec := { name := "fnNormalForm", fn := fun _ => fun
  | [d1, d2] => { results := [.lit (.bool true)], args := [d1, d2] }
  | _ => none }
def fnNormalFormRow : OpenClaim := { program := "ytnkmoeehmdbkkaadoor", sum := "cfc91c8cba10694dc6751d2cda607adec001588c9878a9411c170307b98aabc2", func := "loop.example/g01121/laws.FnNormalForm", spec := "fnNormalForm", inPlace := ["internal/bytealg.IndexByteString", "internal/bytealg.IndexString"], named := ["unicode/utf8.first", "unicode/utf8.acceptRanges", "internal/bytealg.MaxLen"], apart := false, laid := [("unicode/utf8.acceptRanges", laid_unicode_utf8_acceptRanges), ("unicode/utf8.first", laid_unicode_utf8_first)] }
def FnNormalFormSaid : Prop := fnNormalFormRow.holds Tryd.pinned (OpenSpec.ofChange fnNormalFormSpec)

/-- ITS FALSE NEIGHBOUR: 'it returns false'. Refute it at one input. -/
def fnNormalFormWrong : ChangeSpec := { name := "fnNormalForm", fn := fun _ => fun
  | [d1, d2] => { results := [.lit (.bool false)], args := [d1, d2] }
  | _ => none }
def FnNormalFormWrongFalsely : Prop := fnNormalFormRow.holds Tryd.pinned (OpenSpec.ofChange fnNormalFormWrong)

/-- 'laws.FnExactCountPattern': WHATEVER THE INPUT: true; the input reads as it did. -/
def fnExactCountPatternSpec : ChangeSpec := { name := "fnExactCountPattern", fn := fun _ => fun
  | [d1, d2] => { results := [.lit (.bool true)], args := [d1, d2] }
  | _ => none }
def fnExactCountPatternRow : OpenClaim := { program := "ytnkmoeehmdbkkaadoor", sum := "cfc91c8cba10694dc6751d2cda607adec001588c9878a9411c170307b98aabc2", func := "loop.example/g01121/laws.FnExactCountPattern", spec := "fnExactCountPattern", inPlace := ["internal/bytealg.IndexByteString", "internal/bytealg.IndexString"], named := ["unicode/utf8.first", "unicode/utf8.acceptRanges", "internal/bytealg.MaxLen"], apart := false, laid := [("unicode/utf8.acceptRanges", laid_unicode_utf8_acceptRanges), ("unicode/utf8.first", laid_unicode_utf8_first)] }
def FnExactCountPatternSaid : Prop := fnExactCountPatternRow.holds Tryd.pinned (OpenSpec.ofChange fnExactCountPatternSpec)

/-- ITS FALSE NEIGHBOUR: 'it returns false'. Refute it at one input. -/
def fnExactCountPatternWrong : ChangeSpec := { name := "fnExactCountPattern", fn := fun _ => fun
  | [d1, d2] => { results := [.lit (.bool false)], args := [d1, d2] }
  | _ => none }
def FnExactCountPatternWrongFalsely : Prop := fnExactCountPatternRow.holds Tryd.pinned (OpenSpec.ofChange fnExactCountPatternWrong)

/-- 'laws.FnExactShrinkBits': WHATEVER THE INPUT: true; the input reads as it did. -/
def fnExactShrinkBitsSpec : ChangeSpec := { name := "fnExactShrinkBits", fn := fun _ => fun
  | [d1, d2] => { results := [.lit (.bool true)], args := [d1, d2] }
  | _ => none }
def fnExactShrinkBitsRow : OpenClaim := { program := "ytnkmoeehmdbkkaadoor", sum := "cfc91c8cba10694dc6751d2cda607adec001588c9878a9411c170307b98aabc2", func := "loop.example/g01121/laws.FnExactShrinkBits", spec := "fnExactShrinkBits", inPlace := ["internal/bytealg.IndexByteString", "internal/bytealg.IndexString", "internal/abi.NoEscape"], named := ["unicode/utf8.first", "unicode/utf8.acceptRanges", "internal/bytealg.MaxLen"], apart := false, laid := [("unicode/utf8.acceptRanges", laid_unicode_utf8_acceptRanges), ("unicode/utf8.first", laid_unicode_utf8_first)] }
def FnExactShrinkBitsSaid : Prop := fnExactShrinkBitsRow.holds Tryd.pinned (OpenSpec.ofChange fnExactShrinkBitsSpec)

/-- ITS FALSE NEIGHBOUR: 'it returns false'. Refute it at one input. -/
def fnExactShrinkBitsWrong : ChangeSpec := { name := "fnExactShrinkBits", fn := fun _ => fun
  | [d1, d2] => { results := [.lit (.bool false)], args := [d1, d2] }
  | _ => none }
def FnExactShrinkBitsWrongFalsely : Prop := fnExactShrinkBitsRow.holds Tryd.pinned (OpenSpec.ofChange fnExactShrinkBitsWrong)

/-- 'laws.FnExactLongestRun': WHATEVER THE INPUT: true; the input reads as it did. -/
def fnExactLongestRunSpec : ChangeSpec := { name := "fnExactLongestRun", fn := fun _ => fun
  | [d] => { results := [.lit (.bool true)], args := [d] }
  | _ => none }
def fnExactLongestRunRow : OpenClaim := { program := "ytnkmoeehmdbkkaadoor", sum := "cfc91c8cba10694dc6751d2cda607adec001588c9878a9411c170307b98aabc2", func := "loop.example/g01121/laws.FnExactLongestRun", spec := "fnExactLongestRun", inPlace := ["internal/bytealg.IndexByteString", "internal/bytealg.IndexString"], named := ["unicode/utf8.first", "unicode/utf8.acceptRanges", "internal/bytealg.MaxLen"], apart := false, laid := [("unicode/utf8.acceptRanges", laid_unicode_utf8_acceptRanges), ("unicode/utf8.first", laid_unicode_utf8_first)] }
def FnExactLongestRunSaid : Prop := fnExactLongestRunRow.holds Tryd.pinned (OpenSpec.ofChange fnExactLongestRunSpec)

/-- ITS FALSE NEIGHBOUR: 'it returns false'. Refute it at one input. -/
def fnExactLongestRunWrong : ChangeSpec := { name := "fnExactLongestRun", fn := fun _ => fun
  | [d] => { results := [.lit (.bool false)], args := [d] }
  | _ => none }
def FnExactLongestRunWrongFalsely : Prop := fnExactLongestRunRow.holds Tryd.pinned (OpenSpec.ofChange fnExactLongestRunWrong)

/- THE SECOND FORM. 'bulk': how many values and letters a reading holds, each counted each time it is reached (what is shared counts as often as it is met; a slice's spare places count too). A statement '..UptoSaid' is the law's where the arguments, and the package variables that the reading takes, are together of bulk at most 1048576: NARROWER than '..Said'. Prove '..Said' where nothing that the law and all that it calls make is longer than what came in: it says more and counts as full. Else prove '..UptoSaid'. A law counts once. -/
mutual
def uptoBulk {H : Type} : DataW H → Nat
  | .lit (.string bytes) => bytes.length + 1
  | .lit _ => 1
  | .nil => 1
  | .ptr d => uptoBulk d + 1
  | .slice elems spare => uptoBulkAll elems + uptoBulkAll spare + 1
  | .agg parts => uptoBulkAll parts + 1
  | .iface _ d => uptoBulk d + 1
  | .map entries => uptoBulkEntries entries + 1
  | .held _ => 1
def uptoBulkAll {H : Type} : List (DataW H) → Nat
  | [] => 0
  | d :: r => uptoBulk d + uptoBulkAll r
def uptoBulkEntries {H : Type} : List (Lit × DataW H) → Nat
  | [] => 0
  | x :: r => uptoBulkEntry x + uptoBulkEntries r
def uptoBulkEntry {H : Type} : Lit × DataW H → Nat
  | (.string bytes, d) => bytes.length + uptoBulk d + 1
  | (_, d) => uptoBulk d + 1
 end
def uptoSmall : (H : Type) → List (DataW H) → Bool := fun _ ds => decide (uptoBulkAll ds ≤ 1048576)
def OpenSpec.upto (s : _root_.Go.ChangeSpec) : _root_.Go.OpenSpec := { _root_.Go.OpenSpec.ofChange s with cond := some uptoSmall }

/-- 'laws.FnExactImmunityOf', WHERE WHAT IT READS IS OF BULK AT MOST 1048576: true; the input reads as it did. -/
def fnExactImmunityOfUptoRow : OpenClaim := { program := "ytnkmoeehmdbkkaadoor", sum := "cfc91c8cba10694dc6751d2cda607adec001588c9878a9411c170307b98aabc2", func := "loop.example/g01121/laws.FnExactImmunityOf", spec := "fnExactImmunityOf", inPlace := ["internal/bytealg.IndexByteString", "internal/bytealg.IndexString"], named := ["unicode/utf8.first", "unicode/utf8.acceptRanges", "internal/bytealg.MaxLen"], apart := false, laid := [("unicode/utf8.acceptRanges", laid_unicode_utf8_acceptRanges), ("unicode/utf8.first", laid_unicode_utf8_first)], narrowed := true }
def FnExactImmunityOfUptoSaid : Prop := fnExactImmunityOfUptoRow.holds Tryd.pinned (OpenSpec.upto fnExactImmunityOfSpec)

/-- 'laws.FnExactCombinedWidth', WHERE WHAT IT READS IS OF BULK AT MOST 1048576: true; the input reads as it did. -/
def fnExactCombinedWidthUptoRow : OpenClaim := { program := "ytnkmoeehmdbkkaadoor", sum := "cfc91c8cba10694dc6751d2cda607adec001588c9878a9411c170307b98aabc2", func := "loop.example/g01121/laws.FnExactCombinedWidth", spec := "fnExactCombinedWidth", inPlace := ["internal/bytealg.IndexByteString", "internal/bytealg.IndexString"], unfollowed := true, recurses := true, named := ["unicode/utf8.first", "unicode/utf8.acceptRanges", "internal/bytealg.MaxLen"], apart := false, laid := [("unicode/utf8.acceptRanges", laid_unicode_utf8_acceptRanges), ("unicode/utf8.first", laid_unicode_utf8_first)], narrowed := true }
def FnExactCombinedWidthUptoSaid : Prop := fnExactCombinedWidthUptoRow.holds Tryd.pinned (OpenSpec.upto fnExactCombinedWidthSpec)

/-- 'laws.FnExactCombineBits', WHERE WHAT IT READS IS OF BULK AT MOST 1048576: true; the input reads as it did. -/
def fnExactCombineBitsUptoRow : OpenClaim := { program := "ytnkmoeehmdbkkaadoor", sum := "cfc91c8cba10694dc6751d2cda607adec001588c9878a9411c170307b98aabc2", func := "loop.example/g01121/laws.FnExactCombineBits", spec := "fnExactCombineBits", inPlace := ["internal/bytealg.IndexByteString", "internal/bytealg.IndexString", "internal/abi.NoEscape"], unfollowed := true, recurses := true, named := ["unicode/utf8.first", "unicode/utf8.acceptRanges", "internal/bytealg.MaxLen"], apart := false, laid := [("unicode/utf8.acceptRanges", laid_unicode_utf8_acceptRanges), ("unicode/utf8.first", laid_unicode_utf8_first)], narrowed := true }
def FnExactCombineBitsUptoSaid : Prop := fnExactCombineBitsUptoRow.holds Tryd.pinned (OpenSpec.upto fnExactCombineBitsSpec)

/-- 'laws.FnExactAnnihilatorDegree', WHERE WHAT IT READS IS OF BULK AT MOST 1048576: true; the input reads as it did. -/
def fnExactAnnihilatorDegreeUptoRow : OpenClaim := { program := "ytnkmoeehmdbkkaadoor", sum := "cfc91c8cba10694dc6751d2cda607adec001588c9878a9411c170307b98aabc2", func := "loop.example/g01121/laws.FnExactAnnihilatorDegree", spec := "fnExactAnnihilatorDegree", inPlace := ["internal/bytealg.IndexByteString", "internal/bytealg.IndexString"], named := ["unicode/utf8.first", "unicode/utf8.acceptRanges", "internal/bytealg.MaxLen"], apart := false, laid := [("unicode/utf8.acceptRanges", laid_unicode_utf8_acceptRanges), ("unicode/utf8.first", laid_unicode_utf8_first)], narrowed := true }
def FnExactAnnihilatorDegreeUptoSaid : Prop := fnExactAnnihilatorDegreeUptoRow.holds Tryd.pinned (OpenSpec.upto fnExactAnnihilatorDegreeSpec)

/-- 'laws.FnSquares', WHERE WHAT IT READS IS OF BULK AT MOST 1048576: true; the input reads as it did. -/
def fnSquaresUptoRow : OpenClaim := { program := "ytnkmoeehmdbkkaadoor", sum := "cfc91c8cba10694dc6751d2cda607adec001588c9878a9411c170307b98aabc2", func := "loop.example/g01121/laws.FnSquares", spec := "fnSquares", inPlace := ["internal/bytealg.IndexByteString", "internal/bytealg.IndexString"], named := ["unicode/utf8.first", "unicode/utf8.acceptRanges", "internal/bytealg.MaxLen"], apart := false, laid := [("unicode/utf8.acceptRanges", laid_unicode_utf8_acceptRanges), ("unicode/utf8.first", laid_unicode_utf8_first)], narrowed := true }
def FnSquaresUptoSaid : Prop := fnSquaresUptoRow.holds Tryd.pinned (OpenSpec.upto fnSquaresSpec)

/-- 'laws.FnParseval', WHERE WHAT IT READS IS OF BULK AT MOST 1048576: true; the input reads as it did. -/
def fnParsevalUptoRow : OpenClaim := { program := "ytnkmoeehmdbkkaadoor", sum := "cfc91c8cba10694dc6751d2cda607adec001588c9878a9411c170307b98aabc2", func := "loop.example/g01121/laws.FnParseval", spec := "fnParseval", inPlace := ["internal/bytealg.IndexByteString", "internal/bytealg.IndexString"], named := ["unicode/utf8.first", "unicode/utf8.acceptRanges", "internal/bytealg.MaxLen"], apart := false, laid := [("unicode/utf8.acceptRanges", laid_unicode_utf8_acceptRanges), ("unicode/utf8.first", laid_unicode_utf8_first)], narrowed := true }
def FnParsevalUptoSaid : Prop := fnParsevalUptoRow.holds Tryd.pinned (OpenSpec.upto fnParsevalSpec)

/-- 'laws.FnImmunity', WHERE WHAT IT READS IS OF BULK AT MOST 1048576: true; the input reads as it did. -/
def fnImmunityUptoRow : OpenClaim := { program := "ytnkmoeehmdbkkaadoor", sum := "cfc91c8cba10694dc6751d2cda607adec001588c9878a9411c170307b98aabc2", func := "loop.example/g01121/laws.FnImmunity", spec := "fnImmunity", inPlace := ["internal/bytealg.IndexByteString", "internal/bytealg.IndexString"], named := ["unicode/utf8.first", "unicode/utf8.acceptRanges", "internal/bytealg.MaxLen"], apart := false, laid := [("unicode/utf8.acceptRanges", laid_unicode_utf8_acceptRanges), ("unicode/utf8.first", laid_unicode_utf8_first)], narrowed := true }
def FnImmunityUptoSaid : Prop := fnImmunityUptoRow.holds Tryd.pinned (OpenSpec.upto fnImmunitySpec)

/-- 'laws.FnNormalForm', WHERE WHAT IT READS IS OF BULK AT MOST 1048576: true; the input reads as it did. -/
def fnNormalFormUptoRow : OpenClaim := { program := "ytnkmoeehmdbkkaadoor", sum := "cfc91c8cba10694dc6751d2cda607adec001588c9878a9411c170307b98aabc2", func := "loop.example/g01121/laws.FnNormalForm", spec := "fnNormalForm", inPlace := ["internal/bytealg.IndexByteString", "internal/bytealg.IndexString"], named := ["unicode/utf8.first", "unicode/utf8.acceptRanges", "internal/bytealg.MaxLen"], apart := false, laid := [("unicode/utf8.acceptRanges", laid_unicode_utf8_acceptRanges), ("unicode/utf8.first", laid_unicode_utf8_first)], narrowed := true }
def FnNormalFormUptoSaid : Prop := fnNormalFormUptoRow.holds Tryd.pinned (OpenSpec.upto fnNormalFormSpec)

/-- 'laws.FnExactCountPattern', WHERE WHAT IT READS IS OF BULK AT MOST 1048576: true; the input reads as it did. -/
def fnExactCountPatternUptoRow : OpenClaim := { program := "ytnkmoeehmdbkkaadoor", sum := "cfc91c8cba10694dc6751d2cda607adec001588c9878a9411c170307b98aabc2", func := "loop.example/g01121/laws.FnExactCountPattern", spec := "fnExactCountPattern", inPlace := ["internal/bytealg.IndexByteString", "internal/bytealg.IndexString"], named := ["unicode/utf8.first", "unicode/utf8.acceptRanges", "internal/bytealg.MaxLen"], apart := false, laid := [("unicode/utf8.acceptRanges", laid_unicode_utf8_acceptRanges), ("unicode/utf8.first", laid_unicode_utf8_first)], narrowed := true }
def FnExactCountPatternUptoSaid : Prop := fnExactCountPatternUptoRow.holds Tryd.pinned (OpenSpec.upto fnExactCountPatternSpec)

/-- 'laws.FnExactShrinkBits', WHERE WHAT IT READS IS OF BULK AT MOST 1048576: true; the input reads as it did. -/
def fnExactShrinkBitsUptoRow : OpenClaim := { program := "ytnkmoeehmdbkkaadoor", sum := "cfc91c8cba10694dc6751d2cda607adec001588c9878a9411c170307b98aabc2", func := "loop.example/g01121/laws.FnExactShrinkBits", spec := "fnExactShrinkBits", inPlace := ["internal/bytealg.IndexByteString", "internal/bytealg.IndexString", "internal/abi.NoEscape"], named := ["unicode/utf8.first", "unicode/utf8.acceptRanges", "internal/bytealg.MaxLen"], apart := false, laid := [("unicode/utf8.acceptRanges", laid_unicode_utf8_acceptRanges), ("unicode/utf8.first", laid_unicode_utf8_first)], narrowed := true }
def FnExactShrinkBitsUptoSaid : Prop := fnExactShrinkBitsUptoRow.holds Tryd.pinned (OpenSpec.upto fnExactShrinkBitsSpec)

/-- 'laws.FnExactLongestRun', WHERE WHAT IT READS IS OF BULK AT MOST 1048576: true; the input reads as it did. -/
def fnExactLongestRunUptoRow : OpenClaim := { program := "ytnkmoeehmdbkkaadoor", sum := "cfc91c8cba10694dc6751d2cda607adec001588c9878a9411c170307b98aabc2", func := "loop.example/g01121/laws.FnExactLongestRun", spec := "fnExactLongestRun", inPlace := ["internal/bytealg.IndexByteString", "internal/bytealg.IndexString"], named := ["unicode/utf8.first", "unicode/utf8.acceptRanges", "internal/bytealg.MaxLen"], apart := false, laid := [("unicode/utf8.acceptRanges", laid_unicode_utf8_acceptRanges), ("unicode/utf8.first", laid_unicode_utf8_first)], narrowed := true }
def FnExactLongestRunUptoSaid : Prop := fnExactLongestRunUptoRow.holds Tryd.pinned (OpenSpec.upto fnExactLongestRunSpec)

end Rows
end Go.Proofs.YtnkmoeehmdbkkaaDoor
