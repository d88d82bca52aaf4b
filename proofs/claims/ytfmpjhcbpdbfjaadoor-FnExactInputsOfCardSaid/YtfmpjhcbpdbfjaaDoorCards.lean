/-
  DERIVED. GIVEN WITH THE SEED: THE CARDS: each row of YtfmpjhcbpdbfjaaDoorRows.lean that lists a variable, with what it lists TIED to the program's text (the seventh form; the later family's looks); each row that meets fmt, with fmt's text TOLD by the authors' own Lean function (tested against real Go, not proved from fmt's source: count such statements apart). THE CARD IS WHAT COUNTS. Prove the row's statement (the work); the ties are given (YtfmpjhcbpdbfjaaDoorTie.lean); close each card by the builder's one call (the guide's Derived/Test/ToyasCard.lean, 'card_holds'). Laid BY PROGRAM, IN A SANDBOX (cutbox-door.mjs). By AI agents, Wed Nov 11 2026. No macro, syntax, notation, axiom, sorry.
-/
import Derived.Test.YtfmpjhcbpdbfjaaDoorRows
import GoSem.ClaimSeven
namespace Go.Proofs.YtfmpjhcbpdbfjaaDoor
namespace Rows

/-- THE TIED CARD OF 'laws.FnExactIsTable'. -/
def fnExactIsTableCard : Claim7 := { stood := { row := fnExactIsTableRow, standIns := [], harness := (true, "46cc9ecfcd429f8b89c5d720184d24bd3285a78687588fa398b6aedada8f8ac7"), looks := false }, kinds := [], alts := [], laidByText := true, laidKinds := [.data, .pinned], laidTests := true, laidLooks := .later }
def FnExactIsTableCardSaid : Prop := Claim7.holds Tryd.pinned (.plain (OpenSpec.ofChange fnExactIsTableSpec)) fnExactIsTableCard

/-- THE TIED CARD OF 'laws.FnExactValueAt'. -/
def fnExactValueAtCard : Claim7 := { stood := { row := fnExactValueAtRow, standIns := [], harness := (true, "46cc9ecfcd429f8b89c5d720184d24bd3285a78687588fa398b6aedada8f8ac7"), looks := false }, kinds := [], alts := [], laidByText := true, laidKinds := [.data, .pinned], laidTests := true, laidLooks := .later }
def FnExactValueAtCardSaid : Prop := Claim7.holds Tryd.pinned (.plain (OpenSpec.ofChange fnExactValueAtSpec)) fnExactValueAtCard

/-- THE TIED CARD OF 'laws.FnExactInputsOf'. -/
def fnExactInputsOfCard : Claim7 := { stood := { row := fnExactInputsOfRow, standIns := [], harness := (true, "46cc9ecfcd429f8b89c5d720184d24bd3285a78687588fa398b6aedada8f8ac7"), looks := false }, kinds := [], alts := [], laidByText := true, laidKinds := [.data, .pinned], laidTests := true, laidLooks := .later }
def FnExactInputsOfCardSaid : Prop := Claim7.holds Tryd.pinned (.plain (OpenSpec.ofChange fnExactInputsOfSpec)) fnExactInputsOfCard

/-- THE TIED CARD OF 'laws.FnExactNormalForm'. -/
def fnExactNormalFormCard : Claim7 := { stood := { row := fnExactNormalFormRow, standIns := [], harness := (true, "46cc9ecfcd429f8b89c5d720184d24bd3285a78687588fa398b6aedada8f8ac7"), looks := false }, kinds := [], alts := [], laidByText := true, laidKinds := [.data, .pinned], laidTests := true, laidLooks := .later }
def FnExactNormalFormCardSaid : Prop := Claim7.holds Tryd.pinned (.plain (OpenSpec.ofChange fnExactNormalFormSpec)) fnExactNormalFormCard

/-- THE TIED CARD OF 'laws.FnExactBalanceOf'. -/
def fnExactBalanceOfCard : Claim7 := { stood := { row := fnExactBalanceOfRow, standIns := [], harness := (true, "46cc9ecfcd429f8b89c5d720184d24bd3285a78687588fa398b6aedada8f8ac7"), looks := false }, kinds := [], alts := [], laidByText := true, laidKinds := [.data, .pinned], laidTests := true, laidLooks := .later }
def FnExactBalanceOfCardSaid : Prop := Claim7.holds Tryd.pinned (.plain (OpenSpec.ofChange fnExactBalanceOfSpec)) fnExactBalanceOfCard

/-- THE TIED CARD OF 'laws.FnExactShiftsOf'. -/
def fnExactShiftsOfCard : Claim7 := { stood := { row := fnExactShiftsOfRow, standIns := [], harness := (true, "46cc9ecfcd429f8b89c5d720184d24bd3285a78687588fa398b6aedada8f8ac7"), looks := false }, kinds := [], alts := [], laidByText := true, laidKinds := [.data, .pinned], laidTests := true, laidLooks := .later }
def FnExactShiftsOfCardSaid : Prop := Claim7.holds Tryd.pinned (.plain (OpenSpec.ofChange fnExactShiftsOfSpec)) fnExactShiftsOfCard

/-- THE TIED CARD OF 'laws.FnExactSpectrumOf'. -/
def fnExactSpectrumOfCard : Claim7 := { stood := { row := fnExactSpectrumOfRow, standIns := [], harness := (true, "46cc9ecfcd429f8b89c5d720184d24bd3285a78687588fa398b6aedada8f8ac7"), looks := false }, kinds := [], alts := [], laidByText := true, laidKinds := [.data, .pinned], laidTests := true, laidLooks := .later }
def FnExactSpectrumOfCardSaid : Prop := Claim7.holds Tryd.pinned (.plain (OpenSpec.ofChange fnExactSpectrumOfSpec)) fnExactSpectrumOfCard

/-- THE TIED CARD OF 'laws.FnExactNearestSum'. -/
def fnExactNearestSumCard : Claim7 := { stood := { row := fnExactNearestSumRow, standIns := [], harness := (true, "46cc9ecfcd429f8b89c5d720184d24bd3285a78687588fa398b6aedada8f8ac7"), looks := false }, kinds := [], alts := [], laidByText := true, laidKinds := [.data, .pinned], laidTests := true, laidLooks := .later }
def FnExactNearestSumCardSaid : Prop := Claim7.holds Tryd.pinned (.plain (OpenSpec.ofChange fnExactNearestSumSpec)) fnExactNearestSumCard

/-- THE TIED CARD OF 'laws.FnExactNonlinearityOf'. -/
def fnExactNonlinearityOfCard : Claim7 := { stood := { row := fnExactNonlinearityOfRow, standIns := [], harness := (true, "46cc9ecfcd429f8b89c5d720184d24bd3285a78687588fa398b6aedada8f8ac7"), looks := false }, kinds := [], alts := [], laidByText := true, laidKinds := [.data, .pinned], laidTests := true, laidLooks := .later }
def FnExactNonlinearityOfCardSaid : Prop := Claim7.holds Tryd.pinned (.plain (OpenSpec.ofChange fnExactNonlinearityOfSpec)) fnExactNonlinearityOfCard

/-- THE TIED CARD OF 'laws.FnExactFixedShifts'. -/
def fnExactFixedShiftsCard : Claim7 := { stood := { row := fnExactFixedShiftsRow, standIns := [], harness := (true, "46cc9ecfcd429f8b89c5d720184d24bd3285a78687588fa398b6aedada8f8ac7"), looks := false }, kinds := [], alts := [], laidByText := true, laidKinds := [.data, .pinned], laidTests := true, laidLooks := .later }
def FnExactFixedShiftsCardSaid : Prop := Claim7.holds Tryd.pinned (.plain (OpenSpec.ofChange fnExactFixedShiftsSpec)) fnExactFixedShiftsCard

/-- THE TIED CARD OF 'laws.FnExactDegreeOf'. -/
def fnExactDegreeOfCard : Claim7 := { stood := { row := fnExactDegreeOfRow, standIns := [], harness := (true, "46cc9ecfcd429f8b89c5d720184d24bd3285a78687588fa398b6aedada8f8ac7"), looks := false }, kinds := [], alts := [], laidByText := true, laidKinds := [.data, .pinned], laidTests := true, laidLooks := .later }
def FnExactDegreeOfCardSaid : Prop := Claim7.holds Tryd.pinned (.plain (OpenSpec.ofChange fnExactDegreeOfSpec)) fnExactDegreeOfCard

/-- THE SECOND FORM's CARD OF 'laws.FnExactIsTable'. -/
def fnExactIsTableUptoCard : Claim7 := { stood := { row := fnExactIsTableUptoRow, standIns := [], harness := (true, "46cc9ecfcd429f8b89c5d720184d24bd3285a78687588fa398b6aedada8f8ac7"), looks := false }, kinds := [], alts := [], laidByText := true, laidKinds := [.data, .pinned], laidTests := true, laidLooks := .later }
def FnExactIsTableUptoCardSaid : Prop := Claim7.holds Tryd.pinned (.plain (OpenSpec.upto fnExactIsTableSpec)) fnExactIsTableUptoCard

/-- THE SECOND FORM's CARD OF 'laws.FnExactValueAt'. -/
def fnExactValueAtUptoCard : Claim7 := { stood := { row := fnExactValueAtUptoRow, standIns := [], harness := (true, "46cc9ecfcd429f8b89c5d720184d24bd3285a78687588fa398b6aedada8f8ac7"), looks := false }, kinds := [], alts := [], laidByText := true, laidKinds := [.data, .pinned], laidTests := true, laidLooks := .later }
def FnExactValueAtUptoCardSaid : Prop := Claim7.holds Tryd.pinned (.plain (OpenSpec.upto fnExactValueAtSpec)) fnExactValueAtUptoCard

/-- THE SECOND FORM's CARD OF 'laws.FnExactInputsOf'. -/
def fnExactInputsOfUptoCard : Claim7 := { stood := { row := fnExactInputsOfUptoRow, standIns := [], harness := (true, "46cc9ecfcd429f8b89c5d720184d24bd3285a78687588fa398b6aedada8f8ac7"), looks := false }, kinds := [], alts := [], laidByText := true, laidKinds := [.data, .pinned], laidTests := true, laidLooks := .later }
def FnExactInputsOfUptoCardSaid : Prop := Claim7.holds Tryd.pinned (.plain (OpenSpec.upto fnExactInputsOfSpec)) fnExactInputsOfUptoCard

/-- THE SECOND FORM's CARD OF 'laws.FnExactNormalForm'. -/
def fnExactNormalFormUptoCard : Claim7 := { stood := { row := fnExactNormalFormUptoRow, standIns := [], harness := (true, "46cc9ecfcd429f8b89c5d720184d24bd3285a78687588fa398b6aedada8f8ac7"), looks := false }, kinds := [], alts := [], laidByText := true, laidKinds := [.data, .pinned], laidTests := true, laidLooks := .later }
def FnExactNormalFormUptoCardSaid : Prop := Claim7.holds Tryd.pinned (.plain (OpenSpec.upto fnExactNormalFormSpec)) fnExactNormalFormUptoCard

/-- THE SECOND FORM's CARD OF 'laws.FnExactBalanceOf'. -/
def fnExactBalanceOfUptoCard : Claim7 := { stood := { row := fnExactBalanceOfUptoRow, standIns := [], harness := (true, "46cc9ecfcd429f8b89c5d720184d24bd3285a78687588fa398b6aedada8f8ac7"), looks := false }, kinds := [], alts := [], laidByText := true, laidKinds := [.data, .pinned], laidTests := true, laidLooks := .later }
def FnExactBalanceOfUptoCardSaid : Prop := Claim7.holds Tryd.pinned (.plain (OpenSpec.upto fnExactBalanceOfSpec)) fnExactBalanceOfUptoCard

/-- THE SECOND FORM's CARD OF 'laws.FnExactShiftsOf'. -/
def fnExactShiftsOfUptoCard : Claim7 := { stood := { row := fnExactShiftsOfUptoRow, standIns := [], harness := (true, "46cc9ecfcd429f8b89c5d720184d24bd3285a78687588fa398b6aedada8f8ac7"), looks := false }, kinds := [], alts := [], laidByText := true, laidKinds := [.data, .pinned], laidTests := true, laidLooks := .later }
def FnExactShiftsOfUptoCardSaid : Prop := Claim7.holds Tryd.pinned (.plain (OpenSpec.upto fnExactShiftsOfSpec)) fnExactShiftsOfUptoCard

/-- THE SECOND FORM's CARD OF 'laws.FnExactSpectrumOf'. -/
def fnExactSpectrumOfUptoCard : Claim7 := { stood := { row := fnExactSpectrumOfUptoRow, standIns := [], harness := (true, "46cc9ecfcd429f8b89c5d720184d24bd3285a78687588fa398b6aedada8f8ac7"), looks := false }, kinds := [], alts := [], laidByText := true, laidKinds := [.data, .pinned], laidTests := true, laidLooks := .later }
def FnExactSpectrumOfUptoCardSaid : Prop := Claim7.holds Tryd.pinned (.plain (OpenSpec.upto fnExactSpectrumOfSpec)) fnExactSpectrumOfUptoCard

/-- THE SECOND FORM's CARD OF 'laws.FnExactNearestSum'. -/
def fnExactNearestSumUptoCard : Claim7 := { stood := { row := fnExactNearestSumUptoRow, standIns := [], harness := (true, "46cc9ecfcd429f8b89c5d720184d24bd3285a78687588fa398b6aedada8f8ac7"), looks := false }, kinds := [], alts := [], laidByText := true, laidKinds := [.data, .pinned], laidTests := true, laidLooks := .later }
def FnExactNearestSumUptoCardSaid : Prop := Claim7.holds Tryd.pinned (.plain (OpenSpec.upto fnExactNearestSumSpec)) fnExactNearestSumUptoCard

/-- THE SECOND FORM's CARD OF 'laws.FnExactNonlinearityOf'. -/
def fnExactNonlinearityOfUptoCard : Claim7 := { stood := { row := fnExactNonlinearityOfUptoRow, standIns := [], harness := (true, "46cc9ecfcd429f8b89c5d720184d24bd3285a78687588fa398b6aedada8f8ac7"), looks := false }, kinds := [], alts := [], laidByText := true, laidKinds := [.data, .pinned], laidTests := true, laidLooks := .later }
def FnExactNonlinearityOfUptoCardSaid : Prop := Claim7.holds Tryd.pinned (.plain (OpenSpec.upto fnExactNonlinearityOfSpec)) fnExactNonlinearityOfUptoCard

/-- THE SECOND FORM's CARD OF 'laws.FnExactFixedShifts'. -/
def fnExactFixedShiftsUptoCard : Claim7 := { stood := { row := fnExactFixedShiftsUptoRow, standIns := [], harness := (true, "46cc9ecfcd429f8b89c5d720184d24bd3285a78687588fa398b6aedada8f8ac7"), looks := false }, kinds := [], alts := [], laidByText := true, laidKinds := [.data, .pinned], laidTests := true, laidLooks := .later }
def FnExactFixedShiftsUptoCardSaid : Prop := Claim7.holds Tryd.pinned (.plain (OpenSpec.upto fnExactFixedShiftsSpec)) fnExactFixedShiftsUptoCard

/-- THE SECOND FORM's CARD OF 'laws.FnExactDegreeOf'. -/
def fnExactDegreeOfUptoCard : Claim7 := { stood := { row := fnExactDegreeOfUptoRow, standIns := [], harness := (true, "46cc9ecfcd429f8b89c5d720184d24bd3285a78687588fa398b6aedada8f8ac7"), looks := false }, kinds := [], alts := [], laidByText := true, laidKinds := [.data, .pinned], laidTests := true, laidLooks := .later }
def FnExactDegreeOfUptoCardSaid : Prop := Claim7.holds Tryd.pinned (.plain (OpenSpec.upto fnExactDegreeOfSpec)) fnExactDegreeOfUptoCard
end Rows
end Go.Proofs.YtfmpjhcbpdbfjaaDoor
