/-
  DERIVED. GIVEN WITH THE SEED: THE CARDS: each row of YtgonnnjfefjnjaaDoorRows.lean that lists a variable, with what it lists TIED to the program's text (the seventh form; the later family's looks); each row that meets fmt, with fmt's text TOLD by the authors' own Lean function (tested against real Go, not proved from fmt's source: count such statements apart). THE CARD IS WHAT COUNTS. Prove the row's statement (the work); the ties are given (YtgonnnjfefjnjaaDoorTie.lean); close each card by the builder's one call (the guide's Derived/Test/ToyasCard.lean, 'card_holds'). Laid BY PROGRAM, IN A SANDBOX (cutbox-door.mjs). By AI agents, Wed Nov 11 2026. No macro, syntax, notation, axiom, sorry.
-/
import Derived.Test.YtgonnnjfefjnjaaDoorRows
import GoSem.ClaimSeven
namespace Go.Proofs.YtgonnnjfefjnjaaDoor
namespace Rows

/-- THE TIED CARD OF 'laws.FnExactNormalForm'. -/
def fnExactNormalFormCard : Claim7 := { stood := { row := fnExactNormalFormRow, standIns := [], harness := (true, "f60f128157ab42f9f73580be78353738debe60656db5be44c8c20f0eb665c332"), looks := false }, kinds := [], alts := [], laidByText := true, laidKinds := [.data, .pinned], laidTests := true, laidLooks := .later }
def FnExactNormalFormCardSaid : Prop := Claim7.holds Tryd.pinned (.plain (OpenSpec.ofChange fnExactNormalFormSpec)) fnExactNormalFormCard

/-- THE TIED CARD OF 'laws.FnExactBalanceOf'. -/
def fnExactBalanceOfCard : Claim7 := { stood := { row := fnExactBalanceOfRow, standIns := [], harness := (true, "f60f128157ab42f9f73580be78353738debe60656db5be44c8c20f0eb665c332"), looks := false }, kinds := [], alts := [], laidByText := true, laidKinds := [.data, .pinned], laidTests := true, laidLooks := .later }
def FnExactBalanceOfCardSaid : Prop := Claim7.holds Tryd.pinned (.plain (OpenSpec.ofChange fnExactBalanceOfSpec)) fnExactBalanceOfCard

/-- THE TIED CARD OF 'laws.FnExactShiftsOf'. -/
def fnExactShiftsOfCard : Claim7 := { stood := { row := fnExactShiftsOfRow, standIns := [], harness := (true, "f60f128157ab42f9f73580be78353738debe60656db5be44c8c20f0eb665c332"), looks := false }, kinds := [], alts := [], laidByText := true, laidKinds := [.data, .pinned], laidTests := true, laidLooks := .later }
def FnExactShiftsOfCardSaid : Prop := Claim7.holds Tryd.pinned (.plain (OpenSpec.ofChange fnExactShiftsOfSpec)) fnExactShiftsOfCard

/-- THE TIED CARD OF 'laws.FnExactSpectrumOf'. -/
def fnExactSpectrumOfCard : Claim7 := { stood := { row := fnExactSpectrumOfRow, standIns := [], harness := (true, "f60f128157ab42f9f73580be78353738debe60656db5be44c8c20f0eb665c332"), looks := false }, kinds := [], alts := [], laidByText := true, laidKinds := [.data, .pinned], laidTests := true, laidLooks := .later }
def FnExactSpectrumOfCardSaid : Prop := Claim7.holds Tryd.pinned (.plain (OpenSpec.ofChange fnExactSpectrumOfSpec)) fnExactSpectrumOfCard

/-- THE TIED CARD OF 'laws.FnExactNearestSum'. -/
def fnExactNearestSumCard : Claim7 := { stood := { row := fnExactNearestSumRow, standIns := [], harness := (true, "f60f128157ab42f9f73580be78353738debe60656db5be44c8c20f0eb665c332"), looks := false }, kinds := [], alts := [], laidByText := true, laidKinds := [.data, .pinned], laidTests := true, laidLooks := .later }
def FnExactNearestSumCardSaid : Prop := Claim7.holds Tryd.pinned (.plain (OpenSpec.ofChange fnExactNearestSumSpec)) fnExactNearestSumCard

/-- THE TIED CARD OF 'laws.FnExactNonlinearityOf'. -/
def fnExactNonlinearityOfCard : Claim7 := { stood := { row := fnExactNonlinearityOfRow, standIns := [], harness := (true, "f60f128157ab42f9f73580be78353738debe60656db5be44c8c20f0eb665c332"), looks := false }, kinds := [], alts := [], laidByText := true, laidKinds := [.data, .pinned], laidTests := true, laidLooks := .later }
def FnExactNonlinearityOfCardSaid : Prop := Claim7.holds Tryd.pinned (.plain (OpenSpec.ofChange fnExactNonlinearityOfSpec)) fnExactNonlinearityOfCard

/-- THE TIED CARD OF 'laws.FnExactFixedShifts'. -/
def fnExactFixedShiftsCard : Claim7 := { stood := { row := fnExactFixedShiftsRow, standIns := [], harness := (true, "f60f128157ab42f9f73580be78353738debe60656db5be44c8c20f0eb665c332"), looks := false }, kinds := [], alts := [], laidByText := true, laidKinds := [.data, .pinned], laidTests := true, laidLooks := .later }
def FnExactFixedShiftsCardSaid : Prop := Claim7.holds Tryd.pinned (.plain (OpenSpec.ofChange fnExactFixedShiftsSpec)) fnExactFixedShiftsCard

/-- THE TIED CARD OF 'laws.FnExactDegreeOf'. -/
def fnExactDegreeOfCard : Claim7 := { stood := { row := fnExactDegreeOfRow, standIns := [], harness := (true, "f60f128157ab42f9f73580be78353738debe60656db5be44c8c20f0eb665c332"), looks := false }, kinds := [], alts := [], laidByText := true, laidKinds := [.data, .pinned], laidTests := true, laidLooks := .later }
def FnExactDegreeOfCardSaid : Prop := Claim7.holds Tryd.pinned (.plain (OpenSpec.ofChange fnExactDegreeOfSpec)) fnExactDegreeOfCard

/-- THE TIED CARD OF 'laws.FnExactImmunityOf'. -/
def fnExactImmunityOfCard : Claim7 := { stood := { row := fnExactImmunityOfRow, standIns := [], harness := (true, "f60f128157ab42f9f73580be78353738debe60656db5be44c8c20f0eb665c332"), looks := false }, kinds := [], alts := [], laidByText := true, laidKinds := [.data, .pinned], laidTests := true, laidLooks := .later }
def FnExactImmunityOfCardSaid : Prop := Claim7.holds Tryd.pinned (.plain (OpenSpec.ofChange fnExactImmunityOfSpec)) fnExactImmunityOfCard

/-- THE TIED CARD OF 'laws.FnExactCombinedWidth'. -/
def fnExactCombinedWidthCard : Claim7 := { stood := { row := fnExactCombinedWidthRow, standIns := [], harness := (true, "f60f128157ab42f9f73580be78353738debe60656db5be44c8c20f0eb665c332"), looks := false }, kinds := [], alts := [], laidByText := true, laidKinds := [.data, .pinned], laidTests := true, laidLooks := .later }
def FnExactCombinedWidthCardSaid : Prop := Claim7.holds Tryd.pinned (.plain (OpenSpec.ofChange fnExactCombinedWidthSpec)) fnExactCombinedWidthCard

/-- THE TIED CARD OF 'laws.FnExactAnnihilatorDegree'. -/
def fnExactAnnihilatorDegreeCard : Claim7 := { stood := { row := fnExactAnnihilatorDegreeRow, standIns := [], harness := (true, "f60f128157ab42f9f73580be78353738debe60656db5be44c8c20f0eb665c332"), looks := false }, kinds := [], alts := [], laidByText := true, laidKinds := [.data, .pinned], laidTests := true, laidLooks := .later }
def FnExactAnnihilatorDegreeCardSaid : Prop := Claim7.holds Tryd.pinned (.plain (OpenSpec.ofChange fnExactAnnihilatorDegreeSpec)) fnExactAnnihilatorDegreeCard

/-- THE TIED CARD OF 'laws.FnExactCombineBits'. -/
def fnExactCombineBitsCard : Claim7 := { stood := { row := fnExactCombineBitsRow, standIns := [], harness := (true, "f60f128157ab42f9f73580be78353738debe60656db5be44c8c20f0eb665c332"), looks := false }, kinds := [], alts := [], laidByText := true, laidKinds := [.data, .pinned], laidTests := true, laidLooks := .later }
def FnExactCombineBitsCardSaid : Prop := Claim7.holds Tryd.pinned (.plain (OpenSpec.ofChange fnExactCombineBitsSpec)) fnExactCombineBitsCard

/-- THE SECOND FORM's CARD OF 'laws.FnExactNormalForm'. -/
def fnExactNormalFormUptoCard : Claim7 := { stood := { row := fnExactNormalFormUptoRow, standIns := [], harness := (true, "f60f128157ab42f9f73580be78353738debe60656db5be44c8c20f0eb665c332"), looks := false }, kinds := [], alts := [], laidByText := true, laidKinds := [.data, .pinned], laidTests := true, laidLooks := .later }
def FnExactNormalFormUptoCardSaid : Prop := Claim7.holds Tryd.pinned (.plain (OpenSpec.upto fnExactNormalFormSpec)) fnExactNormalFormUptoCard

/-- THE SECOND FORM's CARD OF 'laws.FnExactBalanceOf'. -/
def fnExactBalanceOfUptoCard : Claim7 := { stood := { row := fnExactBalanceOfUptoRow, standIns := [], harness := (true, "f60f128157ab42f9f73580be78353738debe60656db5be44c8c20f0eb665c332"), looks := false }, kinds := [], alts := [], laidByText := true, laidKinds := [.data, .pinned], laidTests := true, laidLooks := .later }
def FnExactBalanceOfUptoCardSaid : Prop := Claim7.holds Tryd.pinned (.plain (OpenSpec.upto fnExactBalanceOfSpec)) fnExactBalanceOfUptoCard

/-- THE SECOND FORM's CARD OF 'laws.FnExactShiftsOf'. -/
def fnExactShiftsOfUptoCard : Claim7 := { stood := { row := fnExactShiftsOfUptoRow, standIns := [], harness := (true, "f60f128157ab42f9f73580be78353738debe60656db5be44c8c20f0eb665c332"), looks := false }, kinds := [], alts := [], laidByText := true, laidKinds := [.data, .pinned], laidTests := true, laidLooks := .later }
def FnExactShiftsOfUptoCardSaid : Prop := Claim7.holds Tryd.pinned (.plain (OpenSpec.upto fnExactShiftsOfSpec)) fnExactShiftsOfUptoCard

/-- THE SECOND FORM's CARD OF 'laws.FnExactSpectrumOf'. -/
def fnExactSpectrumOfUptoCard : Claim7 := { stood := { row := fnExactSpectrumOfUptoRow, standIns := [], harness := (true, "f60f128157ab42f9f73580be78353738debe60656db5be44c8c20f0eb665c332"), looks := false }, kinds := [], alts := [], laidByText := true, laidKinds := [.data, .pinned], laidTests := true, laidLooks := .later }
def FnExactSpectrumOfUptoCardSaid : Prop := Claim7.holds Tryd.pinned (.plain (OpenSpec.upto fnExactSpectrumOfSpec)) fnExactSpectrumOfUptoCard

/-- THE SECOND FORM's CARD OF 'laws.FnExactNearestSum'. -/
def fnExactNearestSumUptoCard : Claim7 := { stood := { row := fnExactNearestSumUptoRow, standIns := [], harness := (true, "f60f128157ab42f9f73580be78353738debe60656db5be44c8c20f0eb665c332"), looks := false }, kinds := [], alts := [], laidByText := true, laidKinds := [.data, .pinned], laidTests := true, laidLooks := .later }
def FnExactNearestSumUptoCardSaid : Prop := Claim7.holds Tryd.pinned (.plain (OpenSpec.upto fnExactNearestSumSpec)) fnExactNearestSumUptoCard

/-- THE SECOND FORM's CARD OF 'laws.FnExactNonlinearityOf'. -/
def fnExactNonlinearityOfUptoCard : Claim7 := { stood := { row := fnExactNonlinearityOfUptoRow, standIns := [], harness := (true, "f60f128157ab42f9f73580be78353738debe60656db5be44c8c20f0eb665c332"), looks := false }, kinds := [], alts := [], laidByText := true, laidKinds := [.data, .pinned], laidTests := true, laidLooks := .later }
def FnExactNonlinearityOfUptoCardSaid : Prop := Claim7.holds Tryd.pinned (.plain (OpenSpec.upto fnExactNonlinearityOfSpec)) fnExactNonlinearityOfUptoCard

/-- THE SECOND FORM's CARD OF 'laws.FnExactFixedShifts'. -/
def fnExactFixedShiftsUptoCard : Claim7 := { stood := { row := fnExactFixedShiftsUptoRow, standIns := [], harness := (true, "f60f128157ab42f9f73580be78353738debe60656db5be44c8c20f0eb665c332"), looks := false }, kinds := [], alts := [], laidByText := true, laidKinds := [.data, .pinned], laidTests := true, laidLooks := .later }
def FnExactFixedShiftsUptoCardSaid : Prop := Claim7.holds Tryd.pinned (.plain (OpenSpec.upto fnExactFixedShiftsSpec)) fnExactFixedShiftsUptoCard

/-- THE SECOND FORM's CARD OF 'laws.FnExactDegreeOf'. -/
def fnExactDegreeOfUptoCard : Claim7 := { stood := { row := fnExactDegreeOfUptoRow, standIns := [], harness := (true, "f60f128157ab42f9f73580be78353738debe60656db5be44c8c20f0eb665c332"), looks := false }, kinds := [], alts := [], laidByText := true, laidKinds := [.data, .pinned], laidTests := true, laidLooks := .later }
def FnExactDegreeOfUptoCardSaid : Prop := Claim7.holds Tryd.pinned (.plain (OpenSpec.upto fnExactDegreeOfSpec)) fnExactDegreeOfUptoCard

/-- THE SECOND FORM's CARD OF 'laws.FnExactImmunityOf'. -/
def fnExactImmunityOfUptoCard : Claim7 := { stood := { row := fnExactImmunityOfUptoRow, standIns := [], harness := (true, "f60f128157ab42f9f73580be78353738debe60656db5be44c8c20f0eb665c332"), looks := false }, kinds := [], alts := [], laidByText := true, laidKinds := [.data, .pinned], laidTests := true, laidLooks := .later }
def FnExactImmunityOfUptoCardSaid : Prop := Claim7.holds Tryd.pinned (.plain (OpenSpec.upto fnExactImmunityOfSpec)) fnExactImmunityOfUptoCard

/-- THE SECOND FORM's CARD OF 'laws.FnExactCombinedWidth'. -/
def fnExactCombinedWidthUptoCard : Claim7 := { stood := { row := fnExactCombinedWidthUptoRow, standIns := [], harness := (true, "f60f128157ab42f9f73580be78353738debe60656db5be44c8c20f0eb665c332"), looks := false }, kinds := [], alts := [], laidByText := true, laidKinds := [.data, .pinned], laidTests := true, laidLooks := .later }
def FnExactCombinedWidthUptoCardSaid : Prop := Claim7.holds Tryd.pinned (.plain (OpenSpec.upto fnExactCombinedWidthSpec)) fnExactCombinedWidthUptoCard

/-- THE SECOND FORM's CARD OF 'laws.FnExactAnnihilatorDegree'. -/
def fnExactAnnihilatorDegreeUptoCard : Claim7 := { stood := { row := fnExactAnnihilatorDegreeUptoRow, standIns := [], harness := (true, "f60f128157ab42f9f73580be78353738debe60656db5be44c8c20f0eb665c332"), looks := false }, kinds := [], alts := [], laidByText := true, laidKinds := [.data, .pinned], laidTests := true, laidLooks := .later }
def FnExactAnnihilatorDegreeUptoCardSaid : Prop := Claim7.holds Tryd.pinned (.plain (OpenSpec.upto fnExactAnnihilatorDegreeSpec)) fnExactAnnihilatorDegreeUptoCard

/-- THE SECOND FORM's CARD OF 'laws.FnExactCombineBits'. -/
def fnExactCombineBitsUptoCard : Claim7 := { stood := { row := fnExactCombineBitsUptoRow, standIns := [], harness := (true, "f60f128157ab42f9f73580be78353738debe60656db5be44c8c20f0eb665c332"), looks := false }, kinds := [], alts := [], laidByText := true, laidKinds := [.data, .pinned], laidTests := true, laidLooks := .later }
def FnExactCombineBitsUptoCardSaid : Prop := Claim7.holds Tryd.pinned (.plain (OpenSpec.upto fnExactCombineBitsSpec)) fnExactCombineBitsUptoCard
end Rows
end Go.Proofs.YtgonnnjfefjnjaaDoor
