/-
  DERIVED. GIVEN WITH THE SEED: THE CARDS: each row of YtlckamnadddlmaaGreatDoorRows.lean that lists a variable, with what it lists TIED to the program's text (the seventh form; the later family's looks); each row that meets fmt, with fmt's text TOLD by the authors' own Lean function (tested against real Go, not proved from fmt's source: count such statements apart). THE CARD IS WHAT COUNTS. Prove the row's statement (the work); the ties are given (YtlckamnadddlmaaGreatDoorTie.lean); close each card by the builder's one call (the guide's Derived/Test/ToyasCard.lean, 'card_holds'). Laid BY PROGRAM, IN A SANDBOX (cutbox-door.mjs). By AI agents, Wed Nov 11 2026. No macro, syntax, notation, axiom, sorry.
-/
import Derived.Test.YtlckamnadddlmaaGreatDoorRows
import GoSem.ClaimSeven
namespace Go.Proofs.YtlckamnadddlmaaGreatDoor
namespace Rows

/-- THE TIED CARD OF 'laws.FnLawCounts'. -/
def fnLawCountsCard : Claim7 := { stood := { row := fnLawCountsRow, standIns := [], harness := (true, "8885714abd2b14970b2963bf418fee46eab70993e3725ee02fa1cea45923ad46"), looks := false }, kinds := [], alts := [], laidByText := true, laidKinds := [.data, .pinned], laidTests := true, laidLooks := .later }
def FnLawCountsCardSaid : Prop := Claim7.holds Tryz.pinned (.plain (OpenSpec.ofChange fnLawCountsSpec)) fnLawCountsCard

/-- THE SECOND FORM's CARD OF 'laws.FnLawCounts'. -/
def fnLawCountsUptoCard : Claim7 := { stood := { row := fnLawCountsUptoRow, standIns := [], harness := (true, "8885714abd2b14970b2963bf418fee46eab70993e3725ee02fa1cea45923ad46"), looks := false }, kinds := [], alts := [], laidByText := true, laidKinds := [.data, .pinned], laidTests := true, laidLooks := .later }
def FnLawCountsUptoCardSaid : Prop := Claim7.holds Tryz.pinned (.plain (OpenSpec.upto fnLawCountsSpec)) fnLawCountsUptoCard
end Rows
end Go.Proofs.YtlckamnadddlmaaGreatDoor
