/-
  DERIVED. GIVEN WITH THE SEED: THE CARDS: each row of YtjkbldkcjjaonaaDoorRows.lean that lists a variable, with what it lists TIED to the program's text (the seventh form; the later family's looks); each row that meets fmt, with fmt's text TOLD by the authors' own Lean function (tested against real Go, not proved from fmt's source: count such statements apart). THE CARD IS WHAT COUNTS. Prove the row's statement (the work); the ties are given (YtjkbldkcjjaonaaDoorTie.lean); close each card by the builder's one call (the guide's Derived/Test/ToyasCard.lean, 'card_holds'). Laid BY PROGRAM, IN A SANDBOX (cutbox-door.mjs). By AI agents, Wed Nov 11 2026. No macro, syntax, notation, axiom, sorry.
-/
import Derived.Test.YtjkbldkcjjaonaaDoorRows
import GoSem.ClaimSeven
namespace Go.Proofs.YtjkbldkcjjaonaaDoor
namespace Rows

/-- THE TIED CARD OF 'laws.FnExactRollTree'. -/
def fnExactRollTreeCard : Claim7 := { stood := { row := fnExactRollTreeRow, standIns := [], harness := (true, "36cb54eb05eac66bec2c42b3d9b2d68686509bdde2c37fabba4a1389c6409490"), looks := false }, kinds := [], alts := [], laidByText := true, laidKinds := [.data, .pinned], laidTests := true, laidLooks := .later }
def FnExactRollTreeCardSaid : Prop := Claim7.holds Tryd.pinned (.plain (OpenSpec.ofChange fnExactRollTreeSpec)) fnExactRollTreeCard

/-- THE TIED CARD OF 'laws.FnExactFairBlock'. -/
def fnExactFairBlockCard : Claim7 := { stood := { row := fnExactFairBlockRow, standIns := [], harness := (true, "36cb54eb05eac66bec2c42b3d9b2d68686509bdde2c37fabba4a1389c6409490"), looks := false }, kinds := [], alts := [], laidByText := true, laidKinds := [.data, .pinned], laidTests := true, laidLooks := .later }
def FnExactFairBlockCardSaid : Prop := Claim7.holds Tryd.pinned (.plain (OpenSpec.ofChange fnExactFairBlockSpec)) fnExactFairBlockCard

/-- THE SECOND FORM's CARD OF 'laws.FnExactRollTree'. -/
def fnExactRollTreeUptoCard : Claim7 := { stood := { row := fnExactRollTreeUptoRow, standIns := [], harness := (true, "36cb54eb05eac66bec2c42b3d9b2d68686509bdde2c37fabba4a1389c6409490"), looks := false }, kinds := [], alts := [], laidByText := true, laidKinds := [.data, .pinned], laidTests := true, laidLooks := .later }
def FnExactRollTreeUptoCardSaid : Prop := Claim7.holds Tryd.pinned (.plain (OpenSpec.upto fnExactRollTreeSpec)) fnExactRollTreeUptoCard

/-- THE SECOND FORM's CARD OF 'laws.FnExactFairBlock'. -/
def fnExactFairBlockUptoCard : Claim7 := { stood := { row := fnExactFairBlockUptoRow, standIns := [], harness := (true, "36cb54eb05eac66bec2c42b3d9b2d68686509bdde2c37fabba4a1389c6409490"), looks := false }, kinds := [], alts := [], laidByText := true, laidKinds := [.data, .pinned], laidTests := true, laidLooks := .later }
def FnExactFairBlockUptoCardSaid : Prop := Claim7.holds Tryd.pinned (.plain (OpenSpec.upto fnExactFairBlockSpec)) fnExactFairBlockUptoCard
end Rows
end Go.Proofs.YtjkbldkcjjaonaaDoor
