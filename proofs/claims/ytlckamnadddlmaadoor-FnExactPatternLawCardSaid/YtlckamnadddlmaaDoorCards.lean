/-
  DERIVED. GIVEN WITH THE SEED: THE CARDS: each row of YtlckamnadddlmaaDoorRows.lean that lists a variable, with what it lists TIED to the program's text (the seventh form; the later family's looks); each row that meets fmt, with fmt's text TOLD by the authors' own Lean function (tested against real Go, not proved from fmt's source: count such statements apart). THE CARD IS WHAT COUNTS. Prove the row's statement (the work); the ties are given (YtlckamnadddlmaaDoorTie.lean); close each card by the builder's one call (the guide's Derived/Test/ToyasCard.lean, 'card_holds'). Laid BY PROGRAM, IN A SANDBOX (cutbox-door.mjs). By AI agents, Wed Nov 11 2026. No macro, syntax, notation, axiom, sorry.
-/
import Derived.Test.YtlckamnadddlmaaDoorRows
import GoSem.ClaimSeven
namespace Go.Proofs.YtlckamnadddlmaaDoor
namespace Rows

/-- THE TIED CARD OF 'laws.FnExactPatternLaw'. -/
def fnExactPatternLawCard : Claim7 := { stood := { row := fnExactPatternLawRow, standIns := [], harness := (true, "3265fda2f460bbf77828c765648437b5a57bdef476197b5c5dfbaaadae54c5de"), looks := false }, kinds := [], alts := [], laidByText := true, laidKinds := [.data, .pinned], laidTests := true, laidLooks := .later }
def FnExactPatternLawCardSaid : Prop := Claim7.holds Tryd.pinned (.plain (OpenSpec.ofChange fnExactPatternLawSpec)) fnExactPatternLawCard

/-- THE SECOND FORM's CARD OF 'laws.FnExactPatternLaw'. -/
def fnExactPatternLawUptoCard : Claim7 := { stood := { row := fnExactPatternLawUptoRow, standIns := [], harness := (true, "3265fda2f460bbf77828c765648437b5a57bdef476197b5c5dfbaaadae54c5de"), looks := false }, kinds := [], alts := [], laidByText := true, laidKinds := [.data, .pinned], laidTests := true, laidLooks := .later }
def FnExactPatternLawUptoCardSaid : Prop := Claim7.holds Tryd.pinned (.plain (OpenSpec.upto fnExactPatternLawSpec)) fnExactPatternLawUptoCard
end Rows
end Go.Proofs.YtlckamnadddlmaaDoor
