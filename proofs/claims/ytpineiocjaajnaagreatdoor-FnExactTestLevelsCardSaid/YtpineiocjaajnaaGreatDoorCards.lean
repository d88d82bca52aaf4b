/-
  DERIVED. GIVEN WITH THE SEED: THE CARDS: each row of YtpineiocjaajnaaGreatDoorRows.lean that lists a variable, with what it lists TIED to the program's text (the seventh form; the later family's looks); each row that meets fmt, with fmt's text TOLD by the authors' own Lean function (tested against real Go, not proved from fmt's source: count such statements apart). THE CARD IS WHAT COUNTS. Prove the row's statement (the work); the ties are given (YtpineiocjaajnaaGreatDoorTie.lean); close each card by the builder's one call (the guide's Derived/Test/ToyasCard.lean, 'card_holds'). Laid BY PROGRAM, IN A SANDBOX (cutbox-door.mjs). By AI agents, Wed Nov 11 2026. No macro, syntax, notation, axiom, sorry.
-/
import Derived.Test.YtpineiocjaajnaaGreatDoorRows
import GoSem.ClaimSeven
namespace Go.Proofs.YtpineiocjaajnaaGreatDoor
namespace Rows

/-- THE TIED CARD OF 'laws.FnLawCounts'. -/
def fnLawCountsCard : Claim7 := { stood := { row := fnLawCountsRow, standIns := [], harness := (true, "9bf30b2cb6d8102adb6e92fd7830efcd99dcaf4e847d0199a4ac858e656624e6"), looks := false }, kinds := [], alts := [], laidByText := true, laidKinds := [.data, .pinned], laidTests := true, laidLooks := .later }
def FnLawCountsCardSaid : Prop := Claim7.holds Tryz.pinned (.plain (OpenSpec.ofChange fnLawCountsSpec)) fnLawCountsCard

/-- THE TIED CARD OF 'laws.FnExactTestLevels'. -/
def fnExactTestLevelsCard : Claim7 := { stood := { row := fnExactTestLevelsRow, standIns := [], harness := (true, "9bf30b2cb6d8102adb6e92fd7830efcd99dcaf4e847d0199a4ac858e656624e6"), looks := false }, kinds := [], alts := [], laidByText := true, laidKinds := [.data, .pinned], laidTests := true, laidLooks := .later }
def FnExactTestLevelsCardSaid : Prop := Claim7.holds Tryz.pinned (.plain (OpenSpec.ofChange fnExactTestLevelsSpec)) fnExactTestLevelsCard

/-- THE SECOND FORM's CARD OF 'laws.FnLawCounts'. -/
def fnLawCountsUptoCard : Claim7 := { stood := { row := fnLawCountsUptoRow, standIns := [], harness := (true, "9bf30b2cb6d8102adb6e92fd7830efcd99dcaf4e847d0199a4ac858e656624e6"), looks := false }, kinds := [], alts := [], laidByText := true, laidKinds := [.data, .pinned], laidTests := true, laidLooks := .later }
def FnLawCountsUptoCardSaid : Prop := Claim7.holds Tryz.pinned (.plain (OpenSpec.upto fnLawCountsSpec)) fnLawCountsUptoCard

/-- THE SECOND FORM's CARD OF 'laws.FnExactTestLevels'. -/
def fnExactTestLevelsUptoCard : Claim7 := { stood := { row := fnExactTestLevelsUptoRow, standIns := [], harness := (true, "9bf30b2cb6d8102adb6e92fd7830efcd99dcaf4e847d0199a4ac858e656624e6"), looks := false }, kinds := [], alts := [], laidByText := true, laidKinds := [.data, .pinned], laidTests := true, laidLooks := .later }
def FnExactTestLevelsUptoCardSaid : Prop := Claim7.holds Tryz.pinned (.plain (OpenSpec.upto fnExactTestLevelsSpec)) fnExactTestLevelsUptoCard
end Rows
end Go.Proofs.YtpineiocjaajnaaGreatDoor
