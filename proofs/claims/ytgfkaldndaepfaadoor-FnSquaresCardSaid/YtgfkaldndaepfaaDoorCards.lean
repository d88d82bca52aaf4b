/-
  DERIVED. GIVEN WITH THE SEED: THE CARDS: each row of YtgfkaldndaepfaaDoorRows.lean that lists a variable, with what it lists TIED to the program's text (the seventh form; the later family's looks); each row that meets fmt, with fmt's text TOLD by the authors' own Lean function (tested against real Go, not proved from fmt's source: count such statements apart). THE CARD IS WHAT COUNTS. Prove the row's statement (the work); the ties are given (YtgfkaldndaepfaaDoorTie.lean); close each card by the builder's one call (the guide's Derived/Test/ToyasCard.lean, 'card_holds'). Laid BY PROGRAM, IN A SANDBOX (cutbox-door.mjs). By AI agents, Wed Nov 11 2026. No macro, syntax, notation, axiom, sorry.
-/
import Derived.Test.YtgfkaldndaepfaaDoorRows
import GoSem.ClaimSeven
namespace Go.Proofs.YtgfkaldndaepfaaDoor
namespace Rows

/-- THE TIED CARD OF 'laws.FnSquares'. -/
def fnSquaresCard : Claim7 := { stood := { row := fnSquaresRow, standIns := [], harness := (true, "c5a88571c82e0714fca709fa44e8ddcf3b5c410c0b7b1ece6236f34a9c85c7e0"), looks := false }, kinds := [], alts := [], laidByText := true, laidKinds := [.data, .pinned], laidTests := true, laidLooks := .later }
def FnSquaresCardSaid : Prop := Claim7.holds Tryd.pinned (.plain (OpenSpec.ofChange fnSquaresSpec)) fnSquaresCard

/-- THE TIED CARD OF 'laws.FnExactAnnihilatorDegree'. -/
def fnExactAnnihilatorDegreeCard : Claim7 := { stood := { row := fnExactAnnihilatorDegreeRow, standIns := [], harness := (true, "c5a88571c82e0714fca709fa44e8ddcf3b5c410c0b7b1ece6236f34a9c85c7e0"), looks := false }, kinds := [], alts := [], laidByText := true, laidKinds := [.data, .pinned], laidTests := true, laidLooks := .later }
def FnExactAnnihilatorDegreeCardSaid : Prop := Claim7.holds Tryd.pinned (.plain (OpenSpec.ofChange fnExactAnnihilatorDegreeSpec)) fnExactAnnihilatorDegreeCard

/-- THE SECOND FORM's CARD OF 'laws.FnSquares'. -/
def fnSquaresUptoCard : Claim7 := { stood := { row := fnSquaresUptoRow, standIns := [], harness := (true, "c5a88571c82e0714fca709fa44e8ddcf3b5c410c0b7b1ece6236f34a9c85c7e0"), looks := false }, kinds := [], alts := [], laidByText := true, laidKinds := [.data, .pinned], laidTests := true, laidLooks := .later }
def FnSquaresUptoCardSaid : Prop := Claim7.holds Tryd.pinned (.plain (OpenSpec.upto fnSquaresSpec)) fnSquaresUptoCard

/-- THE SECOND FORM's CARD OF 'laws.FnExactAnnihilatorDegree'. -/
def fnExactAnnihilatorDegreeUptoCard : Claim7 := { stood := { row := fnExactAnnihilatorDegreeUptoRow, standIns := [], harness := (true, "c5a88571c82e0714fca709fa44e8ddcf3b5c410c0b7b1ece6236f34a9c85c7e0"), looks := false }, kinds := [], alts := [], laidByText := true, laidKinds := [.data, .pinned], laidTests := true, laidLooks := .later }
def FnExactAnnihilatorDegreeUptoCardSaid : Prop := Claim7.holds Tryd.pinned (.plain (OpenSpec.upto fnExactAnnihilatorDegreeSpec)) fnExactAnnihilatorDegreeUptoCard
end Rows
end Go.Proofs.YtgfkaldndaepfaaDoor
