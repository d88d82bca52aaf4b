/-
  DERIVED. GIVEN WITH THE SEED: THE CARDS: each row of YtflgooogiceliaaDoorRows.lean that lists a variable, with what it lists TIED to the program's text (the seventh form; the later family's looks); each row that meets fmt, with fmt's text TOLD by the authors' own Lean function (tested against real Go, not proved from fmt's source: count such statements apart). THE CARD IS WHAT COUNTS. Prove the row's statement (the work); the ties are given (YtflgooogiceliaaDoorTie.lean); close each card by the builder's one call (the guide's Derived/Test/ToyasCard.lean, 'card_holds'). Laid BY PROGRAM, IN A SANDBOX (cutbox-door.mjs). By AI agents, Wed Nov 11 2026. No macro, syntax, notation, axiom, sorry.
-/
import Derived.Test.YtflgooogiceliaaDoorRows
import GoSem.ClaimSeven
namespace Go.Proofs.YtflgooogiceliaaDoor
namespace Rows

/-- THE TIED CARD OF 'laws.FnExactCombinedWidth'. -/
def fnExactCombinedWidthCard : Claim7 := { stood := { row := fnExactCombinedWidthRow, standIns := [], harness := (true, "2fa002b8ab9afc6defcfcce3b8fc26d6c465e161f4a187b75eb601d61d6d135c"), looks := false }, kinds := [], alts := [], laidByText := true, laidKinds := [.data, .pinned], laidTests := true, laidLooks := .later }
def FnExactCombinedWidthCardSaid : Prop := Claim7.holds Tryd.pinned (.plain (OpenSpec.ofChange fnExactCombinedWidthSpec)) fnExactCombinedWidthCard

/-- THE TIED CARD OF 'laws.FnExactAnnihilatorDegree'. -/
def fnExactAnnihilatorDegreeCard : Claim7 := { stood := { row := fnExactAnnihilatorDegreeRow, standIns := [], harness := (true, "2fa002b8ab9afc6defcfcce3b8fc26d6c465e161f4a187b75eb601d61d6d135c"), looks := false }, kinds := [], alts := [], laidByText := true, laidKinds := [.data, .pinned], laidTests := true, laidLooks := .later }
def FnExactAnnihilatorDegreeCardSaid : Prop := Claim7.holds Tryd.pinned (.plain (OpenSpec.ofChange fnExactAnnihilatorDegreeSpec)) fnExactAnnihilatorDegreeCard

/-- THE TIED CARD OF 'laws.FnExactCombineBits'. -/
def fnExactCombineBitsCard : Claim7 := { stood := { row := fnExactCombineBitsRow, standIns := [], harness := (true, "2fa002b8ab9afc6defcfcce3b8fc26d6c465e161f4a187b75eb601d61d6d135c"), looks := false }, kinds := [], alts := [], laidByText := true, laidKinds := [.data, .pinned], laidTests := true, laidLooks := .later }
def FnExactCombineBitsCardSaid : Prop := Claim7.holds Tryd.pinned (.plain (OpenSpec.ofChange fnExactCombineBitsSpec)) fnExactCombineBitsCard

/-- THE TIED CARD OF 'laws.FnParseval'. -/
def fnParsevalCard : Claim7 := { stood := { row := fnParsevalRow, standIns := [], harness := (true, "2fa002b8ab9afc6defcfcce3b8fc26d6c465e161f4a187b75eb601d61d6d135c"), looks := false }, kinds := [], alts := [], laidByText := true, laidKinds := [.data, .pinned], laidTests := true, laidLooks := .later }
def FnParsevalCardSaid : Prop := Claim7.holds Tryd.pinned (.plain (OpenSpec.ofChange fnParsevalSpec)) fnParsevalCard

/-- THE TIED CARD OF 'laws.FnImmunity'. -/
def fnImmunityCard : Claim7 := { stood := { row := fnImmunityRow, standIns := [], harness := (true, "2fa002b8ab9afc6defcfcce3b8fc26d6c465e161f4a187b75eb601d61d6d135c"), looks := false }, kinds := [], alts := [], laidByText := true, laidKinds := [.data, .pinned], laidTests := true, laidLooks := .later }
def FnImmunityCardSaid : Prop := Claim7.holds Tryd.pinned (.plain (OpenSpec.ofChange fnImmunitySpec)) fnImmunityCard

/-- THE TIED CARD OF 'laws.FnNormalForm'. -/
def fnNormalFormCard : Claim7 := { stood := { row := fnNormalFormRow, standIns := [], harness := (true, "2fa002b8ab9afc6defcfcce3b8fc26d6c465e161f4a187b75eb601d61d6d135c"), looks := false }, kinds := [], alts := [], laidByText := true, laidKinds := [.data, .pinned], laidTests := true, laidLooks := .later }
def FnNormalFormCardSaid : Prop := Claim7.holds Tryd.pinned (.plain (OpenSpec.ofChange fnNormalFormSpec)) fnNormalFormCard

/-- THE TIED CARD OF 'laws.FnSquares'. -/
def fnSquaresCard : Claim7 := { stood := { row := fnSquaresRow, standIns := [], harness := (true, "2fa002b8ab9afc6defcfcce3b8fc26d6c465e161f4a187b75eb601d61d6d135c"), looks := false }, kinds := [], alts := [], laidByText := true, laidKinds := [.data, .pinned], laidTests := true, laidLooks := .later }
def FnSquaresCardSaid : Prop := Claim7.holds Tryd.pinned (.plain (OpenSpec.ofChange fnSquaresSpec)) fnSquaresCard

/-- THE TIED CARD OF 'laws.FnExactShrinkBits'. -/
def fnExactShrinkBitsCard : Claim7 := { stood := { row := fnExactShrinkBitsRow, standIns := [], harness := (true, "2fa002b8ab9afc6defcfcce3b8fc26d6c465e161f4a187b75eb601d61d6d135c"), looks := false }, kinds := [], alts := [], laidByText := true, laidKinds := [.data, .pinned], laidTests := true, laidLooks := .later }
def FnExactShrinkBitsCardSaid : Prop := Claim7.holds Tryd.pinned (.plain (OpenSpec.ofChange fnExactShrinkBitsSpec)) fnExactShrinkBitsCard

/-- THE TIED CARD OF 'laws.FnExactLongestRun'. -/
def fnExactLongestRunCard : Claim7 := { stood := { row := fnExactLongestRunRow, standIns := [], harness := (true, "2fa002b8ab9afc6defcfcce3b8fc26d6c465e161f4a187b75eb601d61d6d135c"), looks := false }, kinds := [], alts := [], laidByText := true, laidKinds := [.data, .pinned], laidTests := true, laidLooks := .later }
def FnExactLongestRunCardSaid : Prop := Claim7.holds Tryd.pinned (.plain (OpenSpec.ofChange fnExactLongestRunSpec)) fnExactLongestRunCard

/-- THE TIED CARD OF 'laws.FnExactFairPairs'. -/
def fnExactFairPairsCard : Claim7 := { stood := { row := fnExactFairPairsRow, standIns := [], harness := (true, "2fa002b8ab9afc6defcfcce3b8fc26d6c465e161f4a187b75eb601d61d6d135c"), looks := false }, kinds := [], alts := [], laidByText := true, laidKinds := [.data, .pinned], laidTests := true, laidLooks := .later }
def FnExactFairPairsCardSaid : Prop := Claim7.holds Tryd.pinned (.plain (OpenSpec.ofChange fnExactFairPairsSpec)) fnExactFairPairsCard

/-- THE TIED CARD OF 'laws.FnExactFairDeep'. -/
def fnExactFairDeepCard : Claim7 := { stood := { row := fnExactFairDeepRow, standIns := [], harness := (true, "2fa002b8ab9afc6defcfcce3b8fc26d6c465e161f4a187b75eb601d61d6d135c"), looks := false }, kinds := [], alts := [], laidByText := true, laidKinds := [.data, .pinned], laidTests := true, laidLooks := .later }
def FnExactFairDeepCardSaid : Prop := Claim7.holds Tryd.pinned (.plain (OpenSpec.ofChange fnExactFairDeepSpec)) fnExactFairDeepCard

/-- THE TIED CARD OF 'laws.FnExactCoinFrom'. -/
def fnExactCoinFromCard : Claim7 := { stood := { row := fnExactCoinFromRow, standIns := [], harness := (true, "2fa002b8ab9afc6defcfcce3b8fc26d6c465e161f4a187b75eb601d61d6d135c"), looks := false }, kinds := [], alts := [], laidByText := true, laidKinds := [.data, .pinned], laidTests := true, laidLooks := .later }
def FnExactCoinFromCardSaid : Prop := Claim7.holds Tryd.pinned (.plain (OpenSpec.ofChange fnExactCoinFromSpec)) fnExactCoinFromCard

/-- THE SECOND FORM's CARD OF 'laws.FnExactCombinedWidth'. -/
def fnExactCombinedWidthUptoCard : Claim7 := { stood := { row := fnExactCombinedWidthUptoRow, standIns := [], harness := (true, "2fa002b8ab9afc6defcfcce3b8fc26d6c465e161f4a187b75eb601d61d6d135c"), looks := false }, kinds := [], alts := [], laidByText := true, laidKinds := [.data, .pinned], laidTests := true, laidLooks := .later }
def FnExactCombinedWidthUptoCardSaid : Prop := Claim7.holds Tryd.pinned (.plain (OpenSpec.upto fnExactCombinedWidthSpec)) fnExactCombinedWidthUptoCard

/-- THE SECOND FORM's CARD OF 'laws.FnExactAnnihilatorDegree'. -/
def fnExactAnnihilatorDegreeUptoCard : Claim7 := { stood := { row := fnExactAnnihilatorDegreeUptoRow, standIns := [], harness := (true, "2fa002b8ab9afc6defcfcce3b8fc26d6c465e161f4a187b75eb601d61d6d135c"), looks := false }, kinds := [], alts := [], laidByText := true, laidKinds := [.data, .pinned], laidTests := true, laidLooks := .later }
def FnExactAnnihilatorDegreeUptoCardSaid : Prop := Claim7.holds Tryd.pinned (.plain (OpenSpec.upto fnExactAnnihilatorDegreeSpec)) fnExactAnnihilatorDegreeUptoCard

/-- THE SECOND FORM's CARD OF 'laws.FnExactCombineBits'. -/
def fnExactCombineBitsUptoCard : Claim7 := { stood := { row := fnExactCombineBitsUptoRow, standIns := [], harness := (true, "2fa002b8ab9afc6defcfcce3b8fc26d6c465e161f4a187b75eb601d61d6d135c"), looks := false }, kinds := [], alts := [], laidByText := true, laidKinds := [.data, .pinned], laidTests := true, laidLooks := .later }
def FnExactCombineBitsUptoCardSaid : Prop := Claim7.holds Tryd.pinned (.plain (OpenSpec.upto fnExactCombineBitsSpec)) fnExactCombineBitsUptoCard

/-- THE SECOND FORM's CARD OF 'laws.FnParseval'. -/
def fnParsevalUptoCard : Claim7 := { stood := { row := fnParsevalUptoRow, standIns := [], harness := (true, "2fa002b8ab9afc6defcfcce3b8fc26d6c465e161f4a187b75eb601d61d6d135c"), looks := false }, kinds := [], alts := [], laidByText := true, laidKinds := [.data, .pinned], laidTests := true, laidLooks := .later }
def FnParsevalUptoCardSaid : Prop := Claim7.holds Tryd.pinned (.plain (OpenSpec.upto fnParsevalSpec)) fnParsevalUptoCard

/-- THE SECOND FORM's CARD OF 'laws.FnImmunity'. -/
def fnImmunityUptoCard : Claim7 := { stood := { row := fnImmunityUptoRow, standIns := [], harness := (true, "2fa002b8ab9afc6defcfcce3b8fc26d6c465e161f4a187b75eb601d61d6d135c"), looks := false }, kinds := [], alts := [], laidByText := true, laidKinds := [.data, .pinned], laidTests := true, laidLooks := .later }
def FnImmunityUptoCardSaid : Prop := Claim7.holds Tryd.pinned (.plain (OpenSpec.upto fnImmunitySpec)) fnImmunityUptoCard

/-- THE SECOND FORM's CARD OF 'laws.FnNormalForm'. -/
def fnNormalFormUptoCard : Claim7 := { stood := { row := fnNormalFormUptoRow, standIns := [], harness := (true, "2fa002b8ab9afc6defcfcce3b8fc26d6c465e161f4a187b75eb601d61d6d135c"), looks := false }, kinds := [], alts := [], laidByText := true, laidKinds := [.data, .pinned], laidTests := true, laidLooks := .later }
def FnNormalFormUptoCardSaid : Prop := Claim7.holds Tryd.pinned (.plain (OpenSpec.upto fnNormalFormSpec)) fnNormalFormUptoCard

/-- THE SECOND FORM's CARD OF 'laws.FnSquares'. -/
def fnSquaresUptoCard : Claim7 := { stood := { row := fnSquaresUptoRow, standIns := [], harness := (true, "2fa002b8ab9afc6defcfcce3b8fc26d6c465e161f4a187b75eb601d61d6d135c"), looks := false }, kinds := [], alts := [], laidByText := true, laidKinds := [.data, .pinned], laidTests := true, laidLooks := .later }
def FnSquaresUptoCardSaid : Prop := Claim7.holds Tryd.pinned (.plain (OpenSpec.upto fnSquaresSpec)) fnSquaresUptoCard

/-- THE SECOND FORM's CARD OF 'laws.FnExactShrinkBits'. -/
def fnExactShrinkBitsUptoCard : Claim7 := { stood := { row := fnExactShrinkBitsUptoRow, standIns := [], harness := (true, "2fa002b8ab9afc6defcfcce3b8fc26d6c465e161f4a187b75eb601d61d6d135c"), looks := false }, kinds := [], alts := [], laidByText := true, laidKinds := [.data, .pinned], laidTests := true, laidLooks := .later }
def FnExactShrinkBitsUptoCardSaid : Prop := Claim7.holds Tryd.pinned (.plain (OpenSpec.upto fnExactShrinkBitsSpec)) fnExactShrinkBitsUptoCard

/-- THE SECOND FORM's CARD OF 'laws.FnExactLongestRun'. -/
def fnExactLongestRunUptoCard : Claim7 := { stood := { row := fnExactLongestRunUptoRow, standIns := [], harness := (true, "2fa002b8ab9afc6defcfcce3b8fc26d6c465e161f4a187b75eb601d61d6d135c"), looks := false }, kinds := [], alts := [], laidByText := true, laidKinds := [.data, .pinned], laidTests := true, laidLooks := .later }
def FnExactLongestRunUptoCardSaid : Prop := Claim7.holds Tryd.pinned (.plain (OpenSpec.upto fnExactLongestRunSpec)) fnExactLongestRunUptoCard

/-- THE SECOND FORM's CARD OF 'laws.FnExactFairPairs'. -/
def fnExactFairPairsUptoCard : Claim7 := { stood := { row := fnExactFairPairsUptoRow, standIns := [], harness := (true, "2fa002b8ab9afc6defcfcce3b8fc26d6c465e161f4a187b75eb601d61d6d135c"), looks := false }, kinds := [], alts := [], laidByText := true, laidKinds := [.data, .pinned], laidTests := true, laidLooks := .later }
def FnExactFairPairsUptoCardSaid : Prop := Claim7.holds Tryd.pinned (.plain (OpenSpec.upto fnExactFairPairsSpec)) fnExactFairPairsUptoCard

/-- THE SECOND FORM's CARD OF 'laws.FnExactFairDeep'. -/
def fnExactFairDeepUptoCard : Claim7 := { stood := { row := fnExactFairDeepUptoRow, standIns := [], harness := (true, "2fa002b8ab9afc6defcfcce3b8fc26d6c465e161f4a187b75eb601d61d6d135c"), looks := false }, kinds := [], alts := [], laidByText := true, laidKinds := [.data, .pinned], laidTests := true, laidLooks := .later }
def FnExactFairDeepUptoCardSaid : Prop := Claim7.holds Tryd.pinned (.plain (OpenSpec.upto fnExactFairDeepSpec)) fnExactFairDeepUptoCard

/-- THE SECOND FORM's CARD OF 'laws.FnExactCoinFrom'. -/
def fnExactCoinFromUptoCard : Claim7 := { stood := { row := fnExactCoinFromUptoRow, standIns := [], harness := (true, "2fa002b8ab9afc6defcfcce3b8fc26d6c465e161f4a187b75eb601d61d6d135c"), looks := false }, kinds := [], alts := [], laidByText := true, laidKinds := [.data, .pinned], laidTests := true, laidLooks := .later }
def FnExactCoinFromUptoCardSaid : Prop := Claim7.holds Tryd.pinned (.plain (OpenSpec.upto fnExactCoinFromSpec)) fnExactCoinFromUptoCard
end Rows
end Go.Proofs.YtflgooogiceliaaDoor
