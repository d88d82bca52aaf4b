/-
  NARROWER THAN 'FOR EVERY INPUT', by the rows' own cells (each row's printed sentence says how): FnExactCombinedWidth: laid · FnExactAnnihilatorDegree: laid · FnExactCombineBits: laid · FnParseval: laid · FnImmunity: laid · FnNormalForm: laid · FnSquares: laid · FnExactShrinkBits: laid · FnExactLongestRun: laid · FnExactFairPairs: laid · FnExactFairDeep: laid · FnExactCoinFrom: laid.
  DERIVED. THE GIVEN ROWS OF THIS SEAT. 12 by the template 'for every input the law returns true; each argument reads behind the call as it read before'; 0 by the template 'total and deterministic' (their statements: YtflgooogiceliaaDoorTotals.lean).
  GIVEN WITH THE SEED: the statements are not yours to turn. If you find one false, say at which input.
  Laid BY PROGRAM, IN A SANDBOX (cutbox-rows.mjs): the forced cells as the released guide's own fill.sh prints them over the translation 5d178cc5a33af8f6… (all of the seat's roots in one cut). By AI agents, Wed Nov 11 2026. No macro, syntax, notation, axiom, sorry.
-/
import Derived.Test.YtflgooogiceliaaDoorChecked
import GoSem.PinnedTables
import GoSem.Claim
import GoSem.ClaimJoined
import GoSem.ClaimMapViews
import Derived.JoinedTies
import Derived.KernelRfl
namespace Go.Proofs.YtflgooogiceliaaDoor
/- THE CELL 'sum', in the pinned program and in every row, IS THE sha256 OF THE DUMP (.gsa) THAT YtflgooogiceliaaDoorProg.lean LOADS. Nothing in Lean hashes anything: it is a label: what it is worth is what the hold of that sum in a sandbox is worth. -/
noncomputable def Tryd.pinned : Pinned := { name := "ytflgooogiceliaadoor", sum := "5d178cc5a33af8f6543f73617cc5d283e06daecdc750b6017d0761454684b9a7", checked := Tryd.checked }
namespace Rows
def none {H : Type} : Left H := { results := [], args := [] }

/- WHAT THE LISTED PACKAGE-LEVEL VARIABLES READ AS WHEN THE CALL BEGINS. Each datum BY PROGRAM (the guide's laid-datum.mjs) off the statement by which the dump's own 'gosem.cut.vars' lays the variable. In a bare row this is a premise. The card (YtflgooogiceliaaDoorCards.lean) ties it to the program's text. -/
def laid_unicode_utf8_acceptRanges {H : Type} : DataW H := .agg [.agg [.lit (.int .u8 128), .lit (.int .u8 191)], .agg [.lit (.int .u8 160), .lit (.int .u8 191)], .agg [.lit (.int .u8 128), .lit (.int .u8 159)], .agg [.lit (.int .u8 144), .lit (.int .u8 191)], .agg [.lit (.int .u8 128), .lit (.int .u8 143)], .agg [.lit (.int .u8 0), .lit (.int .u8 0)], .agg [.lit (.int .u8 0), .lit (.int .u8 0)], .agg [.lit (.int .u8 0), .lit (.int .u8 0)], .agg [.lit (.int .u8 0), .lit (.int .u8 0)], .agg [.lit (.int .u8 0), .lit (.int .u8 0)], .agg [.lit (.int .u8 0), .lit (.int .u8 0)], .agg [.lit (.int .u8 0), .lit (.int .u8 0)], .agg [.lit (.int .u8 0), .lit (.int .u8 0)], .agg [.lit (.int .u8 0), .lit (.int .u8 0)], .agg [.lit (.int .u8 0), .lit (.int .u8 0)], .agg [.lit (.int .u8 0), .lit (.int .u8 0)]]
/-- One of Go's own tables, pinned by name: the form's constant. -/
def laid_unicode_utf8_first : DataW Unit := Go.Pinned.utf8First

/-- 'laws.FnExactCombinedWidth': WHATEVER THE INPUT: true; the input reads as it did. -/
def fnExactCombinedWidthSpec : ChangeSpec := { name := "fnExactCombinedWidth", fn := fun _ => fun
  | [d1, d2] => { results := [.lit (.bool true)], args := [d1, d2] }
  | _ => none }
def fnExactCombinedWidthRow : OpenClaim := { program := "ytflgooogiceliaadoor", sum := "5d178cc5a33af8f6543f73617cc5d283e06daecdc750b6017d0761454684b9a7", func := "loop.example/g01121/laws.FnExactCombinedWidth", spec := "fnExactCombinedWidth", inPlace := ["internal/bytealg.IndexByteString", "internal/bytealg.IndexString"], unfollowed := true, recurses := true, named := ["unicode/utf8.first", "unicode/utf8.acceptRanges", "internal/bytealg.MaxLen"], apart := false, laid := [("unicode/utf8.acceptRanges", laid_unicode_utf8_acceptRanges), ("unicode/utf8.first", laid_unicode_utf8_first)] }
def FnExactCombinedWidthSaid : Prop := fnExactCombinedWidthRow.holds Tryd.pinned (OpenSpec.ofChange fnExactCombinedWidthSpec)

/-- ITS FALSE NEIGHBOUR: 'it returns false'. Refute it at one input. -/
def fnExactCombinedWidthWrong : ChangeSpec := { name := "fnExactCombinedWidth", fn := fun _ => fun
  | [d1, d2] => { results := [.lit (.bool false)], args := [d1, d2] }
  | _ => none }
def FnExactCombinedWidthWrongFalsely : Prop := fnExactCombinedWidthRow.holds Tryd.pinned (OpenSpec.ofChange fnExactCombinedWidthWrong)

/-- 'laws.FnExactAnnihilatorDegree': WHATEVER THE INPUT: true; the input reads as it did. -/
def fnExactAnnihilatorDegreeSpec : ChangeSpec := { name := "fnExactAnnihilatorDegree", fn := fun _ => fun
  | [d] => { results := [.lit (.bool true)], args := [d] }
  | _ => none }
def fnExactAnnihilatorDegreeRow : OpenClaim := { program := "ytflgooogiceliaadoor", sum := "5d178cc5a33af8f6543f73617cc5d283e06daecdc750b6017d0761454684b9a7", func := "loop.example/g01121/laws.FnExactAnnihilatorDegree", spec := "fnExactAnnihilatorDegree", inPlace := ["internal/bytealg.IndexByteString", "internal/bytealg.IndexString"], named := ["unicode/utf8.first", "unicode/utf8.acceptRanges", "internal/bytealg.MaxLen"], apart := false, laid := [("unicode/utf8.acceptRanges", laid_unicode_utf8_acceptRanges), ("unicode/utf8.first", laid_unicode_utf8_first)] }
def FnExactAnnihilatorDegreeSaid : Prop := fnExactAnnihilatorDegreeRow.holds Tryd.pinned (OpenSpec.ofChange fnExactAnnihilatorDegreeSpec)

/-- ITS FALSE NEIGHBOUR: 'it returns false'. Refute it at one input. -/
def fnExactAnnihilatorDegreeWrong : ChangeSpec := { name := "fnExactAnnihilatorDegree", fn := fun _ => fun
  | [d] => { results := [.lit (.bool false)], args := [d] }
  | _ => none }
def FnExactAnnihilatorDegreeWrongFalsely : Prop := fnExactAnnihilatorDegreeRow.holds Tryd.pinned (OpenSpec.ofChange fnExactAnnihilatorDegreeWrong)

/-- 'laws.FnExactCombineBits': WHATEVER THE INPUT: true; the input reads as it did. -/
def fnExactCombineBitsSpec : ChangeSpec := { name := "fnExactCombineBits", fn := fun _ => fun
  | [d1, d2] => { results := [.lit (.bool true)], args := [d1, d2] }
  | _ => none }
def fnExactCombineBitsRow : OpenClaim := { program := "ytflgooogiceliaadoor", sum := "5d178cc5a33af8f6543f73617cc5d283e06daecdc750b6017d0761454684b9a7", func := "loop.example/g01121/laws.FnExactCombineBits", spec := "fnExactCombineBits", inPlace := ["internal/bytealg.IndexByteString", "internal/bytealg.IndexString", "internal/abi.NoEscape"], unfollowed := true, recurses := true, named := ["unicode/utf8.first", "unicode/utf8.acceptRanges", "internal/bytealg.MaxLen"], apart := false, laid := [("unicode/utf8.acceptRanges", laid_unicode_utf8_acceptRanges), ("unicode/utf8.first", laid_unicode_utf8_first)] }
def FnExactCombineBitsSaid : Prop := fnExactCombineBitsRow.holds Tryd.pinned (OpenSpec.ofChange fnExactCombineBitsSpec)

/-- ITS FALSE NEIGHBOUR: 'it returns false'. Refute it at one input. -/
def fnExactCombineBitsWrong : ChangeSpec := { name := "fnExactCombineBits", fn := fun _ => fun
  | [d1, d2] => { results := [.lit (.bool false)], args := [d1, d2] }
  | _ => none }
def FnExactCombineBitsWrongFalsely : Prop := fnExactCombineBitsRow.holds Tryd.pinned (OpenSpec.ofChange fnExactCombineBitsWrong)

/-- 'laws.FnParseval': WHATEVER THE INPUT: true; the input reads as it did. -/
def fnParsevalSpec : ChangeSpec := { name := "fnParseval", fn := fun _ => fun
  | [d1, d2] => { results := [.lit (.bool true)], args := [d1, d2] }
  | _ => none }
def fnParsevalRow : OpenClaim := { program := "ytflgooogiceliaadoor", sum := "5d178cc5a33af8f6543f73617cc5d283e06daecdc750b6017d0761454684b9a7", func := "loop.example/g01121/laws.FnParseval", spec := "fnParseval", inPlace := ["internal/bytealg.IndexByteString", "internal/bytealg.IndexString"], named := ["unicode/utf8.first", "unicode/utf8.acceptRanges", "internal/bytealg.MaxLen"], apart := false, laid := [("unicode/utf8.acceptRanges", laid_unicode_utf8_acceptRanges), ("unicode/utf8.first", laid_unicode_utf8_first)] }
def FnParsevalSaid : Prop := fnParsevalRow.holds Tryd.pinned (OpenSpec.ofChange fnParsevalSpec)

/-- ITS FALSE NEIGHBOUR: 'it returns false'. Refute it at one input. -/
def fnParsevalWrong : ChangeSpec := { name := "fnParseval", fn := fun _ => fun
  | [d1, d2] => { results := [.lit (.bool false)], args := [d1, d2] }
  | _ => none }
def FnParsevalWrongFalsely : Prop := fnParsevalRow.holds Tryd.pinned (OpenSpec.ofChange fnParsevalWrong)

/-- 'laws.FnImmunity': WHATEVER THE INPUT: true; the input reads as it did. -/
def fnImmunitySpec : ChangeSpec := { name := "fnImmunity", fn := fun _ => fun
  | [d1, d2] => { results := [.lit (.bool true)], args := [d1, d2] }
  | _ => none }
def fnImmunityRow : OpenClaim := { program := "ytflgooogiceliaadoor", sum := "5d178cc5a33af8f6543f73617cc5d283e06daecdc750b6017d0761454684b9a7", func := "loop.example/g01121/laws.FnImmunity", spec := "fnImmunity", inPlace := ["internal/bytealg.IndexByteString", "internal/bytealg.IndexString"], named := ["unicode/utf8.first", "unicode/utf8.acceptRanges", "internal/bytealg.MaxLen"], apart := false, laid := [("unicode/utf8.acceptRanges", laid_unicode_utf8_acceptRanges), ("unicode/utf8.first", laid_unicode_utf8_first)] }
def FnImmunitySaid : Prop := fnImmunityRow.holds Tryd.pinned (OpenSpec.ofChange fnImmunitySpec)

/-- ITS FALSE NEIGHBOUR: 'it returns false'. Refute it at one input. -/
def fnImmunityWrong : ChangeSpec := { name := "fnImmunity", fn := fun _ => fun
  | [d1, d2] => { results := [.lit (.bool false)], args := [d1, d2] }
  | _ => none }
def FnImmunityWrongFalsely : Prop := fnImmunityRow.holds Tryd.pinned (OpenSpec.ofChange fnImmunityWrong)

/-- 'laws.FnNormalForm': WHATEVER THE INPUT: true; the input reads as it did. -/
def fnNormalFormSpec : ChangeSpec := { name := "fnNormalForm", fn := fun _ => fun
  | [d1, d2] => { results := [.lit (.bool true)], args := [d1, d2] }
  | _ => none }
def fnNormalFormRow : OpenClaim := { program := "ytflgooogiceliaadoor", sum := "5d178cc5a33af8f6543f73617cc5d283e06daecdc750b6017d0761454684b9a7", func := "loop.example/g01121/laws.FnNormalForm", spec := "fnNormalForm", inPlace := ["internal/bytealg.IndexByteString", "internal/bytealg.IndexString"], named := ["unicode/utf8.first", "unicode/utf8.acceptRanges", "internal/bytealg.MaxLen"], apart := false, laid := [("unicode/utf8.acceptRanges", laid_unicode_utf8_acceptRanges), ("unicode/utf8.first", laid_unicode_utf8_first)] }
def FnNormalFormSaid : Prop := fnNormalFormRow.holds Tryd.pinned (OpenSpec.ofChange fnNormalFormSpec)

/-- ITS FALSE NEIGHBOUR: 'it returns false'. Refute it at one input. -/
def fnNormalFormWrong : ChangeSpec := { name := "fnNormalForm", fn := fun _ => fun
  | [d1, d2] => { results := [.lit (.bool false)], args := [d1, d2] }
  | _ => none }
def FnNormalFormWrongFalsely : Prop := fnNormalFormRow.holds Tryd.pinned (OpenSpec.ofChange fnNormalFormWrong)

/-- 'laws.FnSquares': WHATEVER THE INPUT: true; the input reads as it did. -/
def fnSquaresSpec : ChangeSpec := { name := "fnSquares", fn := fun _ => fun
  | [d1, d2] => { results := [.lit (.bool true)], args := [d1, d2] }
  | _ => none }
def fnSquaresRow : OpenClaim := { program := "ytflgooogiceliaadoor", sum := "5d178cc5a33af8f6543f73617cc5d283e06daecdc750b6017d0761454684b9a7", func := "loop.example/g01121/laws.FnSquares", spec := "fnSquares", inPlace := ["internal/bytealg.IndexByteString", "internal/bytealg.IndexString"], named := ["unicode/utf8.first", "unicode/utf8.acceptRanges", "internal/bytealg.MaxLen"], apart := false, laid := [("unicode/utf8.acceptRanges", laid_unicode_utf8_acceptRanges), ("unicode/utf8.first", laid_unicode_utf8_first)] }
def FnSquaresSaid : Prop := fnSquaresRow.holds Tryd.pinned (OpenSpec.ofChange fnSquaresSpec)

/-- ITS FALSE NEIGHBOUR: 'it returns false'. Refute it at one input. -/
def fnSquaresWrong : ChangeSpec := { name := "fnSquares", fn := fun _ => fun
  | [d1, d2] => { results := [.lit (.bool false)], args := [d1, d2] }
  | _ => none }
def FnSquaresWrongFalsely : Prop := fnSquaresRow.holds Tryd.pinned (OpenSpec.ofChange fnSquaresWrong)

/-- 'laws.FnExactShrinkBits': WHATEVER THE INPUT: true; the input reads as it did. -/
def fnExactShrinkBitsSpec : ChangeSpec := { name := "fnExactShrinkBits", fn := fun _ => fun
  | [d1, d2] => { results := [.lit (.bool true)], args := [d1, d2] }
  | _ => none }
def fnExactShrinkBitsRow : OpenClaim := { program := "ytflgooogiceliaadoor", sum := "5d178cc5a33af8f6543f73617cc5d283e06daecdc750b6017d0761454684b9a7", func := "loop.example/g01121/laws.FnExactShrinkBits", spec := "fnExactShrinkBits", inPlace := ["internal/bytealg.IndexByteString", "internal/bytealg.IndexString", "internal/abi.NoEscape"], named := ["unicode/utf8.first", "unicode/utf8.acceptRanges", "internal/bytealg.MaxLen"], apart := false, laid := [("unicode/utf8.acceptRanges", laid_unicode_utf8_acceptRanges), ("unicode/utf8.first", laid_unicode_utf8_first)] }
def FnExactShrinkBitsSaid : Prop := fnExactShrinkBitsRow.holds Tryd.pinned (OpenSpec.ofChange fnExactShrinkBitsSpec)

/-- ITS FALSE NEIGHBOUR: 'it returns false'. Refute it at one input. -/
def fnExactShrinkBitsWrong : ChangeSpec := { name := "fnExactShrinkBits", fn := fun _ => fun
  | [d1, d2] => { results := [.lit (.bool false)], args := [d1, d2] }
  | _ => none }
def FnExactShrinkBitsWrongFalsely : Prop := fnExactShrinkBitsRow.holds Tryd.pinned (OpenSpec.ofChange fnExactShrinkBitsWrong)

/-- 'laws.FnExactLongestRun': WHATEVER THE INPUT: true; the input reads as it did. -/
def fnExactLongestRunSpec : ChangeSpec := { name := "fnExactLongestRun", fn := fun _ => fun
  | [d] => { results := [.lit (.bool true)], args := [d] }
  | _ => none }
def fnExactLongestRunRow : OpenClaim := { program := "ytflgooogiceliaadoor", sum := "5d178cc5a33af8f6543f73617cc5d283e06daecdc750b6017d0761454684b9a7", func := "loop.example/g01121/laws.FnExactLongestRun", spec := "fnExactLongestRun", inPlace := ["internal/bytealg.IndexByteString", "internal/bytealg.IndexString"], named := ["unicode/utf8.first", "unicode/utf8.acceptRanges", "internal/bytealg.MaxLen"], apart := false, laid := [("unicode/utf8.acceptRanges", laid_unicode_utf8_acceptRanges), ("unicode/utf8.first", laid_unicode_utf8_first)] }
def FnExactLongestRunSaid : Prop := fnExactLongestRunRow.holds Tryd.pinned (OpenSpec.ofChange fnExactLongestRunSpec)

/-- ITS FALSE NEIGHBOUR: 'it returns false'. Refute it at one input. -/
def fnExactLongestRunWrong : ChangeSpec := { name := "fnExactLongestRun", fn := fun _ => fun
  | [d] => { results := [.lit (.bool false)], args := [d] }
  | _ => none }
def FnExactLongestRunWrongFalsely : Prop := fnExactLongestRunRow.holds Tryd.pinned (OpenSpec.ofChange fnExactLongestRunWrong)

/-- 'laws.FnExactFairPairs': WHATEVER THE INPUT: true; the input reads as it did. -/
def fnExactFairPairsSpec : ChangeSpec := { name := "fnExactFairPairs", fn := fun _ => fun
  | [d] => { results := [.lit (.bool true)], args := [d] }
  | _ => none }
def fnExactFairPairsRow : OpenClaim := { program := "ytflgooogiceliaadoor", sum := "5d178cc5a33af8f6543f73617cc5d283e06daecdc750b6017d0761454684b9a7", func := "loop.example/g01121/laws.FnExactFairPairs", spec := "fnExactFairPairs", inPlace := ["internal/bytealg.IndexByteString", "internal/bytealg.IndexString", "internal/abi.NoEscape"], named := ["unicode/utf8.first", "unicode/utf8.acceptRanges", "internal/bytealg.MaxLen"], apart := false, laid := [("unicode/utf8.acceptRanges", laid_unicode_utf8_acceptRanges), ("unicode/utf8.first", laid_unicode_utf8_first)] }
def FnExactFairPairsSaid : Prop := fnExactFairPairsRow.holds Tryd.pinned (OpenSpec.ofChange fnExactFairPairsSpec)

/-- ITS FALSE NEIGHBOUR: 'it returns false'. Refute it at one input. -/
def fnExactFairPairsWrong : ChangeSpec := { name := "fnExactFairPairs", fn := fun _ => fun
  | [d] => { results := [.lit (.bool false)], args := [d] }
  | _ => none }
def FnExactFairPairsWrongFalsely : Prop := fnExactFairPairsRow.holds Tryd.pinned (OpenSpec.ofChange fnExactFairPairsWrong)

/-- 'laws.FnExactFairDeep': WHATEVER THE INPUT: true; the input reads as it did. -/
def fnExactFairDeepSpec : ChangeSpec := { name := "fnExactFairDeep", fn := fun _ => fun
  | [d1, d2] => { results := [.lit (.bool true)], args := [d1, d2] }
  | _ => none }
def fnExactFairDeepRow : OpenClaim := { program := "ytflgooogiceliaadoor", sum := "5d178cc5a33af8f6543f73617cc5d283e06daecdc750b6017d0761454684b9a7", func := "loop.example/g01121/laws.FnExactFairDeep", spec := "fnExactFairDeep", inPlace := ["internal/bytealg.IndexByteString", "internal/bytealg.IndexString", "internal/abi.NoEscape"], recurses := true, named := ["unicode/utf8.first", "unicode/utf8.acceptRanges", "internal/bytealg.MaxLen"], apart := false, laid := [("unicode/utf8.acceptRanges", laid_unicode_utf8_acceptRanges), ("unicode/utf8.first", laid_unicode_utf8_first)] }
def FnExactFairDeepSaid : Prop := fnExactFairDeepRow.holds Tryd.pinned (OpenSpec.ofChange fnExactFairDeepSpec)

/-- ITS FALSE NEIGHBOUR: 'it returns false'. Refute it at one input. -/
def fnExactFairDeepWrong : ChangeSpec := { name := "fnExactFairDeep", fn := fun _ => fun
  | [d1, d2] => { results := [.lit (.bool false)], args := [d1, d2] }
  | _ => none }
def FnExactFairDeepWrongFalsely : Prop := fnExactFairDeepRow.holds Tryd.pinned (OpenSpec.ofChange fnExactFairDeepWrong)

/-- 'laws.FnExactCoinFrom': WHATEVER THE INPUT: true; the input reads as it did. -/
def fnExactCoinFromSpec : ChangeSpec := { name := "fnExactCoinFrom", fn := fun _ => fun
  | [d1, d2] => { results := [.lit (.bool true)], args := [d1, d2] }
  | _ => none }
def fnExactCoinFromRow : OpenClaim := { program := "ytflgooogiceliaadoor", sum := "5d178cc5a33af8f6543f73617cc5d283e06daecdc750b6017d0761454684b9a7", func := "loop.example/g01121/laws.FnExactCoinFrom", spec := "fnExactCoinFrom", inPlace := ["internal/bytealg.IndexByteString", "internal/bytealg.IndexString"], named := ["unicode/utf8.first", "unicode/utf8.acceptRanges", "internal/bytealg.MaxLen"], apart := false, laid := [("unicode/utf8.acceptRanges", laid_unicode_utf8_acceptRanges), ("unicode/utf8.first", laid_unicode_utf8_first)] }
def FnExactCoinFromSaid : Prop := fnExactCoinFromRow.holds Tryd.pinned (OpenSpec.ofChange fnExactCoinFromSpec)

/-- ITS FALSE NEIGHBOUR: 'it returns false'. Refute it at one input. -/
def fnExactCoinFromWrong : ChangeSpec := { name := "fnExactCoinFrom", fn := fun _ => fun
  | [d1, d2] => { results := [.lit (.bool false)], args := [d1, d2] }
  | _ => none }
def FnExactCoinFromWrongFalsely : Prop := fnExactCoinFromRow.holds Tryd.pinned (OpenSpec.ofChange fnExactCoinFromWrong)

/- THE SECOND FORM. 'bulk': how many values and letters a reading holds, each counted each time it is reached (what is shared counts as often as it is met; a slice's spare places count too). A statement '..UptoSaid' is the law's where the arguments, and the package variables that the reading takes, are together of bulk at most 1048576: NARROWER than '..Said'. Prove '..Said' where nothing that the law and all that it calls make is longer than what came in: it says more and counts as full. Else prove '..UptoSaid'. A law counts once. -/
mutual
def uptoBulk {H : Type} : DataW H → Nat
  | .lit (.string bytes) => bytes.length + 1
  | .lit _ => 1
  | .nil => 1
  | .ptr d => uptoBulk d + 1
  | .slice elems spare => uptoBulkAll elems + uptoBulkAll spare + 1
  | .agg parts => uptoBulkAll parts + 1
  | .iface _ d => uptoBulk d + 1
  | .map entries => uptoBulkEntries entries + 1
  | .held _ => 1
def uptoBulkAll {H : Type} : List (DataW H) → Nat
  | [] => 0
  | d :: r => uptoBulk d + uptoBulkAll r
def uptoBulkEntries {H : Type} : List (Lit × DataW H) → Nat
  | [] => 0
  | x :: r => uptoBulkEntry x + uptoBulkEntries r
def uptoBulkEntry {H : Type} : Lit × DataW H → Nat
  | (.string bytes, d) => bytes.length + uptoBulk d + 1
  | (_, d) => uptoBulk d + 1
 end
def uptoSmall : (H : Type) → List (DataW H) → Bool := fun _ ds => decide (uptoBulkAll ds ≤ 1048576)
def OpenSpec.upto (s : _root_.Go.ChangeSpec) : _root_.Go.OpenSpec := { _root_.Go.OpenSpec.ofChange s with cond := some uptoSmall }

/-- 'laws.FnExactCombinedWidth', WHERE WHAT IT READS IS OF BULK AT MOST 1048576: true; the input reads as it did. -/
def fnExactCombinedWidthUptoRow : OpenClaim := { program := "ytflgooogiceliaadoor", sum := "5d178cc5a33af8f6543f73617cc5d283e06daecdc750b6017d0761454684b9a7", func := "loop.example/g01121/laws.FnExactCombinedWidth", spec := "fnExactCombinedWidth", inPlace := ["internal/bytealg.IndexByteString", "internal/bytealg.IndexString"], unfollowed := true, recurses := true, named := ["unicode/utf8.first", "unicode/utf8.acceptRanges", "internal/bytealg.MaxLen"], apart := false, laid := [("unicode/utf8.acceptRanges", laid_unicode_utf8_acceptRanges), ("unicode/utf8.first", laid_unicode_utf8_first)], narrowed := true }
def FnExactCombinedWidthUptoSaid : Prop := fnExactCombinedWidthUptoRow.holds Tryd.pinned (OpenSpec.upto fnExactCombinedWidthSpec)

/-- 'laws.FnExactAnnihilatorDegree', WHERE WHAT IT READS IS OF BULK AT MOST 1048576: true; the input reads as it did. -/
def fnExactAnnihilatorDegreeUptoRow : OpenClaim := { program := "ytflgooogiceliaadoor", sum := "5d178cc5a33af8f6543f73617cc5d283e06daecdc750b6017d0761454684b9a7", func := "loop.example/g01121/laws.FnExactAnnihilatorDegree", spec := "fnExactAnnihilatorDegree", inPlace := ["internal/bytealg.IndexByteString", "internal/bytealg.IndexString"], named := ["unicode/utf8.first", "unicode/utf8.acceptRanges", "internal/bytealg.MaxLen"], apart := false, laid := [("unicode/utf8.acceptRanges", laid_unicode_utf8_acceptRanges), ("unicode/utf8.first", laid_unicode_utf8_first)], narrowed := true }
def FnExactAnnihilatorDegreeUptoSaid : Prop := fnExactAnnihilatorDegreeUptoRow.holds Tryd.pinned (OpenSpec.upto fnExactAnnihilatorDegreeSpec)

/-- 'laws.FnExactCombineBits', WHERE WHAT IT READS IS OF BULK AT MOST 1048576: true; the input reads as it did. -/
def fnExactCombineBitsUptoRow : OpenClaim := { program := "ytflgooogiceliaadoor", sum := "5d178cc5a33af8f6543f73617cc5d283e06daecdc750b6017d0761454684b9a7", func := "loop.example/g01121/laws.FnExactCombineBits", spec := "fnExactCombineBits", inPlace := ["internal/bytealg.IndexByteString", "internal/bytealg.IndexString", "internal/abi.NoEscape"], unfollowed := true, recurses := true, named := ["unicode/utf8.first", "unicode/utf8.acceptRanges", "internal/bytealg.MaxLen"], apart := false, laid := [("unicode/utf8.acceptRanges", laid_unicode_utf8_acceptRanges), ("unicode/utf8.first", laid_unicode_utf8_first)], narrowed := true }
def FnExactCombineBitsUptoSaid : Prop := fnExactCombineBitsUptoRow.holds Tryd.pinned (OpenSpec.upto fnExactCombineBitsSpec)

/-- 'laws.FnParseval', WHERE WHAT IT READS IS OF BULK AT MOST 1048576: true; the input reads as it did. -/
def fnParsevalUptoRow : OpenClaim := { program := "ytflgooogiceliaadoor", sum := "5d178cc5a33af8f6543f73617cc5d283e06daecdc750b6017d0761454684b9a7", func := "loop.example/g01121/laws.FnParseval", spec := "fnParseval", inPlace := ["internal/bytealg.IndexByteString", "internal/bytealg.IndexString"], named := ["unicode/utf8.first", "unicode/utf8.acceptRanges", "internal/bytealg.MaxLen"], apart := false, laid := [("unicode/utf8.acceptRanges", laid_unicode_utf8_acceptRanges), ("unicode/utf8.first", laid_unicode_utf8_first)], narrowed := true }
def FnParsevalUptoSaid : Prop := fnParsevalUptoRow.holds Tryd.pinned (OpenSpec.upto fnParsevalSpec)

/-- 'laws.FnImmunity', WHERE WHAT IT READS IS OF BULK AT MOST 1048576: true; the input reads as it did. -/
def fnImmunityUptoRow : OpenClaim := { program := "ytflgooogiceliaadoor", sum := "5d178cc5a33af8f6543f73617cc5d283e06daecdc750b6017d0761454684b9a7", func := "loop.example/g01121/laws.FnImmunity", spec := "fnImmunity", inPlace := ["internal/bytealg.IndexByteString", "internal/bytealg.IndexString"], named := ["unicode/utf8.first", "unicode/utf8.acceptRanges", "internal/bytealg.MaxLen"], apart := false, laid := [("unicode/utf8.acceptRanges", laid_unicode_utf8_acceptRanges), ("unicode/utf8.first", laid_unicode_utf8_first)], narrowed := true }
def FnImmunityUptoSaid : Prop := fnImmunityUptoRow.holds Tryd.pinned (OpenSpec.upto fnImmunitySpec)

/-- 'laws.FnNormalForm', WHERE WHAT IT READS IS OF BULK AT MOST 1048576: true; the input reads as it did. -/
def fnNormalFormUptoRow : OpenClaim := { program := "ytflgooogiceliaadoor", sum := "5d178cc5a33af8f6543f73617cc5d283e06daecdc750b6017d0761454684b9a7", func := "loop.example/g01121/laws.FnNormalForm", spec := "fnNormalForm", inPlace := ["internal/bytealg.IndexByteString", "internal/bytealg.IndexString"], named := ["unicode/utf8.first", "unicode/utf8.acceptRanges", "internal/bytealg.MaxLen"], apart := false, laid := [("unicode/utf8.acceptRanges", laid_unicode_utf8_acceptRanges), ("unicode/utf8.first", laid_unicode_utf8_first)], narrowed := true }
def FnNormalFormUptoSaid : Prop := fnNormalFormUptoRow.holds Tryd.pinned (OpenSpec.upto fnNormalFormSpec)

/-- 'laws.FnSquares', WHERE WHAT IT READS IS OF BULK AT MOST 1048576: true; the input reads as it did. -/
def fnSquaresUptoRow : OpenClaim := { program := "ytflgooogiceliaadoor", sum := "5d178cc5a33af8f6543f73617cc5d283e06daecdc750b6017d0761454684b9a7", func := "loop.example/g01121/laws.FnSquares", spec := "fnSquares", inPlace := ["internal/bytealg.IndexByteString", "internal/bytealg.IndexString"], named := ["unicode/utf8.first", "unicode/utf8.acceptRanges", "internal/bytealg.MaxLen"], apart := false, laid := [("unicode/utf8.acceptRanges", laid_unicode_utf8_acceptRanges), ("unicode/utf8.first", laid_unicode_utf8_first)], narrowed := true }
def FnSquaresUptoSaid : Prop := fnSquaresUptoRow.holds Tryd.pinned (OpenSpec.upto fnSquaresSpec)

/-- 'laws.FnExactShrinkBits', WHERE WHAT IT READS IS OF BULK AT MOST 1048576: true; the input reads as it did. -/
def fnExactShrinkBitsUptoRow : OpenClaim := { program := "ytflgooogiceliaadoor", sum := "5d178cc5a33af8f6543f73617cc5d283e06daecdc750b6017d0761454684b9a7", func := "loop.example/g01121/laws.FnExactShrinkBits", spec := "fnExactShrinkBits", inPlace := ["internal/bytealg.IndexByteString", "internal/bytealg.IndexString", "internal/abi.NoEscape"], named := ["unicode/utf8.first", "unicode/utf8.acceptRanges", "internal/bytealg.MaxLen"], apart := false, laid := [("unicode/utf8.acceptRanges", laid_unicode_utf8_acceptRanges), ("unicode/utf8.first", laid_unicode_utf8_first)], narrowed := true }
def FnExactShrinkBitsUptoSaid : Prop := fnExactShrinkBitsUptoRow.holds Tryd.pinned (OpenSpec.upto fnExactShrinkBitsSpec)

/-- 'laws.FnExactLongestRun', WHERE WHAT IT READS IS OF BULK AT MOST 1048576: true; the input reads as it did. -/
def fnExactLongestRunUptoRow : OpenClaim := { program := "ytflgooogiceliaadoor", sum := "5d178cc5a33af8f6543f73617cc5d283e06daecdc750b6017d0761454684b9a7", func := "loop.example/g01121/laws.FnExactLongestRun", spec := "fnExactLongestRun", inPlace := ["internal/bytealg.IndexByteString", "internal/bytealg.IndexString"], named := ["unicode/utf8.first", "unicode/utf8.acceptRanges", "internal/bytealg.MaxLen"], apart := false, laid := [("unicode/utf8.acceptRanges", laid_unicode_utf8_acceptRanges), ("unicode/utf8.first", laid_unicode_utf8_first)], narrowed := true }
def FnExactLongestRunUptoSaid : Prop := fnExactLongestRunUptoRow.holds Tryd.pinned (OpenSpec.upto fnExactLongestRunSpec)

/-- 'laws.FnExactFairPairs', WHERE WHAT IT READS IS OF BULK AT MOST 1048576: true; the input reads as it did. -/
def fnExactFairPairsUptoRow : OpenClaim := { program := "ytflgooogiceliaadoor", sum := "5d178cc5a33af8f6543f73617cc5d283e06daecdc750b6017d0761454684b9a7", func := "loop.example/g01121/laws.FnExactFairPairs", spec := "fnExactFairPairs", inPlace := ["internal/bytealg.IndexByteString", "internal/bytealg.IndexString", "internal/abi.NoEscape"], named := ["unicode/utf8.first", "unicode/utf8.acceptRanges", "internal/bytealg.MaxLen"], apart := false, laid := [("unicode/utf8.acceptRanges", laid_unicode_utf8_acceptRanges), ("unicode/utf8.first", laid_unicode_utf8_first)], narrowed := true }
def FnExactFairPairsUptoSaid : Prop := fnExactFairPairsUptoRow.holds Tryd.pinned (OpenSpec.upto fnExactFairPairsSpec)

/-- 'laws.FnExactFairDeep', WHERE WHAT IT READS IS OF BULK AT MOST 1048576: true; the input reads as it did. -/
def fnExactFairDeepUptoRow : OpenClaim := { program := "ytflgooogiceliaadoor", sum := "5d178cc5a33af8f6543f73617cc5d283e06daecdc750b6017d0761454684b9a7", func := "loop.example/g01121/laws.FnExactFairDeep", spec := "fnExactFairDeep", inPlace := ["internal/bytealg.IndexByteString", "internal/bytealg.IndexString", "internal/abi.NoEscape"], recurses := true, named := ["unicode/utf8.first", "unicode/utf8.acceptRanges", "internal/bytealg.MaxLen"], apart := false, laid := [("unicode/utf8.acceptRanges", laid_unicode_utf8_acceptRanges), ("unicode/utf8.first", laid_unicode_utf8_first)], narrowed := true }
def FnExactFairDeepUptoSaid : Prop := fnExactFairDeepUptoRow.holds Tryd.pinned (OpenSpec.upto fnExactFairDeepSpec)

/-- 'laws.FnExactCoinFrom', WHERE WHAT IT READS IS OF BULK AT MOST 1048576: true; the input reads as it did. -/
def fnExactCoinFromUptoRow : OpenClaim := { program := "ytflgooogiceliaadoor", sum := "5d178cc5a33af8f6543f73617cc5d283e06daecdc750b6017d0761454684b9a7", func := "loop.example/g01121/laws.FnExactCoinFrom", spec := "fnExactCoinFrom", inPlace := ["internal/bytealg.IndexByteString", "internal/bytealg.IndexString"], named := ["unicode/utf8.first", "unicode/utf8.acceptRanges", "internal/bytealg.MaxLen"], apart := false, laid := [("unicode/utf8.acceptRanges", laid_unicode_utf8_acceptRanges), ("unicode/utf8.first", laid_unicode_utf8_first)], narrowed := true }
def FnExactCoinFromUptoSaid : Prop := fnExactCoinFromUptoRow.holds Tryd.pinned (OpenSpec.upto fnExactCoinFromSpec)

end Rows
end Go.Proofs.YtflgooogiceliaaDoor
