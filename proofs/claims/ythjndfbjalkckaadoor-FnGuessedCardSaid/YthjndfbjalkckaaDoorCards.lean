/-
  DERIVED. GIVEN WITH THE SEED: THE CARDS: each row of YthjndfbjalkckaaDoorRows.lean that lists a variable, with what it lists TIED to the program's text (the seventh form; the later family's looks); each row that meets fmt, with fmt's text TOLD by the authors' own Lean function (tested against real Go, not proved from fmt's source: count such statements apart). THE CARD IS WHAT COUNTS. Prove the row's statement (the work); the ties are given (YthjndfbjalkckaaDoorTie.lean); close each card by the builder's one call (the guide's Derived/Test/ToyasCard.lean, 'card_holds'). Laid BY PROGRAM, IN A SANDBOX (cutbox-door.mjs). By AI agents, Wed Nov 11 2026. No macro, syntax, notation, axiom, sorry.
-/
import Derived.Test.YthjndfbjalkckaaDoorRows
import GoSem.ClaimSeven
namespace Go.Proofs.YthjndfbjalkckaaDoor
namespace Rows

/-- THE TIED CARD OF 'laws.FnExactReadCongruence'. -/
def fnExactReadCongruenceCard : Claim7 := { stood := { row := fnExactReadCongruenceRow, standIns := [], harness := (true, "583f1a5893ee30e522280af9bc1febda615ca7676614e33300a743b1917e3c16"), looks := true }, kinds := [], alts := [], laidByText := true, laidKinds := [.data, .data, .data, .data, .sentinel, .sentinel, .pinned], laidTests := true, laidLooks := .later }
def FnExactReadCongruenceCardSaid : Prop := Claim7.holds Tryd.pinned (.plain (OpenSpec.ofChange fnExactReadCongruenceSpec)) fnExactReadCongruenceCard

/-- THE TIED CARD OF 'laws.FnGuessed'. -/
def fnGuessedCard : Claim7 := { stood := { row := fnGuessedRow, standIns := [], harness := (true, "583f1a5893ee30e522280af9bc1febda615ca7676614e33300a743b1917e3c16"), looks := true }, kinds := [], alts := [], laidByText := true, laidKinds := [.data, .data, .data, .data, .sentinel, .sentinel, .pinned], laidTests := true, laidLooks := .later }
def FnGuessedCardSaid : Prop := Claim7.holds Tryd.pinned (.plain (OpenSpec.ofChange fnGuessedSpec)) fnGuessedCard

/-- THE SECOND FORM's CARD OF 'laws.FnExactReadCongruence'. -/
def fnExactReadCongruenceUptoCard : Claim7 := { stood := { row := fnExactReadCongruenceUptoRow, standIns := [], harness := (true, "583f1a5893ee30e522280af9bc1febda615ca7676614e33300a743b1917e3c16"), looks := true }, kinds := [], alts := [], laidByText := true, laidKinds := [.data, .data, .data, .data, .sentinel, .sentinel, .pinned], laidTests := true, laidLooks := .later }
def FnExactReadCongruenceUptoCardSaid : Prop := Claim7.holds Tryd.pinned (.plain (OpenSpec.upto fnExactReadCongruenceSpec)) fnExactReadCongruenceUptoCard

/-- THE SECOND FORM's CARD OF 'laws.FnGuessed'. -/
def fnGuessedUptoCard : Claim7 := { stood := { row := fnGuessedUptoRow, standIns := [], harness := (true, "583f1a5893ee30e522280af9bc1febda615ca7676614e33300a743b1917e3c16"), looks := true }, kinds := [], alts := [], laidByText := true, laidKinds := [.data, .data, .data, .data, .sentinel, .sentinel, .pinned], laidTests := true, laidLooks := .later }
def FnGuessedUptoCardSaid : Prop := Claim7.holds Tryd.pinned (.plain (OpenSpec.upto fnGuessedSpec)) fnGuessedUptoCard
end Rows
end Go.Proofs.YthjndfbjalkckaaDoor
