/-
  DERIVED. GIVEN WITH THE SEED: THE CARDS: each row of YtfageonhlmhhpaaDoorRows.lean that lists a variable, with what it lists TIED to the program's text (the seventh form; the later family's looks); each row that meets fmt, with fmt's text TOLD by the authors' own Lean function (tested against real Go, not proved from fmt's source: count such statements apart). THE CARD IS WHAT COUNTS. Prove the row's statement (the work); the ties are given (YtfageonhlmhhpaaDoorTie.lean); close each card by the builder's one call (the guide's Derived/Test/ToyasCard.lean, 'card_holds'). Laid BY PROGRAM, IN A SANDBOX (cutbox-door.mjs). By AI agents, Wed Nov 11 2026. No macro, syntax, notation, axiom, sorry.
-/
import Derived.Test.YtfageonhlmhhpaaDoorRows
import GoSem.ClaimSeven
namespace Go.Proofs.YtfageonhlmhhpaaDoor
namespace Rows

/-- THE TIED CARD OF 'laws.FnExactRollTree'. -/
def fnExactRollTreeCard : Claim7 := { stood := { row := fnExactRollTreeRow, standIns := [], harness := (true, "a6fed0e2e30cec7e57cdf18f676b11e49e52a8641b7187e7267646618395919a"), looks := false }, kinds := [], alts := [], laidByText := true, laidKinds := [.data, .pinned], laidTests := true, laidLooks := .later }
def FnExactRollTreeCardSaid : Prop := Claim7.holds Tryd.pinned (.plain (OpenSpec.ofChange fnExactRollTreeSpec)) fnExactRollTreeCard

/-- THE TIED CARD OF 'laws.FnExactRollDice'. -/
def fnExactRollDiceCard : Claim7 := { stood := { row := fnExactRollDiceRow, standIns := [], harness := (true, "a6fed0e2e30cec7e57cdf18f676b11e49e52a8641b7187e7267646618395919a"), looks := false }, kinds := [], alts := [], laidByText := true, laidKinds := [.data, .pinned], laidTests := true, laidLooks := .later }
def FnExactRollDiceCardSaid : Prop := Claim7.holds Tryd.pinned (.plain (OpenSpec.ofChange fnExactRollDiceSpec)) fnExactRollDiceCard

/-- THE TIED CARD OF 'laws.FnExactRollReject'. -/
def fnExactRollRejectCard : Claim7 := { stood := { row := fnExactRollRejectRow, standIns := [], harness := (true, "a6fed0e2e30cec7e57cdf18f676b11e49e52a8641b7187e7267646618395919a"), looks := false }, kinds := [], alts := [], laidByText := true, laidKinds := [.data, .pinned], laidTests := true, laidLooks := .later }
def FnExactRollRejectCardSaid : Prop := Claim7.holds Tryd.pinned (.plain (OpenSpec.ofChange fnExactRollRejectSpec)) fnExactRollRejectCard

/-- THE TIED CARD OF 'laws.FnExactFairPairs'. -/
def fnExactFairPairsCard : Claim7 := { stood := { row := fnExactFairPairsRow, standIns := [], harness := (true, "a6fed0e2e30cec7e57cdf18f676b11e49e52a8641b7187e7267646618395919a"), looks := false }, kinds := [], alts := [], laidByText := true, laidKinds := [.data, .pinned], laidTests := true, laidLooks := .later }
def FnExactFairPairsCardSaid : Prop := Claim7.holds Tryd.pinned (.plain (OpenSpec.ofChange fnExactFairPairsSpec)) fnExactFairPairsCard

/-- THE TIED CARD OF 'laws.FnExactFairDeep'. -/
def fnExactFairDeepCard : Claim7 := { stood := { row := fnExactFairDeepRow, standIns := [], harness := (true, "a6fed0e2e30cec7e57cdf18f676b11e49e52a8641b7187e7267646618395919a"), looks := false }, kinds := [], alts := [], laidByText := true, laidKinds := [.data, .pinned], laidTests := true, laidLooks := .later }
def FnExactFairDeepCardSaid : Prop := Claim7.holds Tryd.pinned (.plain (OpenSpec.ofChange fnExactFairDeepSpec)) fnExactFairDeepCard

/-- THE TIED CARD OF 'laws.FnExactCoinFrom'. -/
def fnExactCoinFromCard : Claim7 := { stood := { row := fnExactCoinFromRow, standIns := [], harness := (true, "a6fed0e2e30cec7e57cdf18f676b11e49e52a8641b7187e7267646618395919a"), looks := false }, kinds := [], alts := [], laidByText := true, laidKinds := [.data, .pinned], laidTests := true, laidLooks := .later }
def FnExactCoinFromCardSaid : Prop := Claim7.holds Tryd.pinned (.plain (OpenSpec.ofChange fnExactCoinFromSpec)) fnExactCoinFromCard

/-- THE TIED CARD OF 'laws.FnExactFairBlock'. -/
def fnExactFairBlockCard : Claim7 := { stood := { row := fnExactFairBlockRow, standIns := [], harness := (true, "a6fed0e2e30cec7e57cdf18f676b11e49e52a8641b7187e7267646618395919a"), looks := false }, kinds := [], alts := [], laidByText := true, laidKinds := [.data, .pinned], laidTests := true, laidLooks := .later }
def FnExactFairBlockCardSaid : Prop := Claim7.holds Tryd.pinned (.plain (OpenSpec.ofChange fnExactFairBlockSpec)) fnExactFairBlockCard

/-- THE SECOND FORM's CARD OF 'laws.FnExactRollTree'. -/
def fnExactRollTreeUptoCard : Claim7 := { stood := { row := fnExactRollTreeUptoRow, standIns := [], harness := (true, "a6fed0e2e30cec7e57cdf18f676b11e49e52a8641b7187e7267646618395919a"), looks := false }, kinds := [], alts := [], laidByText := true, laidKinds := [.data, .pinned], laidTests := true, laidLooks := .later }
def FnExactRollTreeUptoCardSaid : Prop := Claim7.holds Tryd.pinned (.plain (OpenSpec.upto fnExactRollTreeSpec)) fnExactRollTreeUptoCard

/-- THE SECOND FORM's CARD OF 'laws.FnExactRollDice'. -/
def fnExactRollDiceUptoCard : Claim7 := { stood := { row := fnExactRollDiceUptoRow, standIns := [], harness := (true, "a6fed0e2e30cec7e57cdf18f676b11e49e52a8641b7187e7267646618395919a"), looks := false }, kinds := [], alts := [], laidByText := true, laidKinds := [.data, .pinned], laidTests := true, laidLooks := .later }
def FnExactRollDiceUptoCardSaid : Prop := Claim7.holds Tryd.pinned (.plain (OpenSpec.upto fnExactRollDiceSpec)) fnExactRollDiceUptoCard

/-- THE SECOND FORM's CARD OF 'laws.FnExactRollReject'. -/
def fnExactRollRejectUptoCard : Claim7 := { stood := { row := fnExactRollRejectUptoRow, standIns := [], harness := (true, "a6fed0e2e30cec7e57cdf18f676b11e49e52a8641b7187e7267646618395919a"), looks := false }, kinds := [], alts := [], laidByText := true, laidKinds := [.data, .pinned], laidTests := true, laidLooks := .later }
def FnExactRollRejectUptoCardSaid : Prop := Claim7.holds Tryd.pinned (.plain (OpenSpec.upto fnExactRollRejectSpec)) fnExactRollRejectUptoCard

/-- THE SECOND FORM's CARD OF 'laws.FnExactFairPairs'. -/
def fnExactFairPairsUptoCard : Claim7 := { stood := { row := fnExactFairPairsUptoRow, standIns := [], harness := (true, "a6fed0e2e30cec7e57cdf18f676b11e49e52a8641b7187e7267646618395919a"), looks := false }, kinds := [], alts := [], laidByText := true, laidKinds := [.data, .pinned], laidTests := true, laidLooks := .later }
def FnExactFairPairsUptoCardSaid : Prop := Claim7.holds Tryd.pinned (.plain (OpenSpec.upto fnExactFairPairsSpec)) fnExactFairPairsUptoCard

/-- THE SECOND FORM's CARD OF 'laws.FnExactFairDeep'. -/
def fnExactFairDeepUptoCard : Claim7 := { stood := { row := fnExactFairDeepUptoRow, standIns := [], harness := (true, "a6fed0e2e30cec7e57cdf18f676b11e49e52a8641b7187e7267646618395919a"), looks := false }, kinds := [], alts := [], laidByText := true, laidKinds := [.data, .pinned], laidTests := true, laidLooks := .later }
def FnExactFairDeepUptoCardSaid : Prop := Claim7.holds Tryd.pinned (.plain (OpenSpec.upto fnExactFairDeepSpec)) fnExactFairDeepUptoCard

/-- THE SECOND FORM's CARD OF 'laws.FnExactCoinFrom'. -/
def fnExactCoinFromUptoCard : Claim7 := { stood := { row := fnExactCoinFromUptoRow, standIns := [], harness := (true, "a6fed0e2e30cec7e57cdf18f676b11e49e52a8641b7187e7267646618395919a"), looks := false }, kinds := [], alts := [], laidByText := true, laidKinds := [.data, .pinned], laidTests := true, laidLooks := .later }
def FnExactCoinFromUptoCardSaid : Prop := Claim7.holds Tryd.pinned (.plain (OpenSpec.upto fnExactCoinFromSpec)) fnExactCoinFromUptoCard

/-- THE SECOND FORM's CARD OF 'laws.FnExactFairBlock'. -/
def fnExactFairBlockUptoCard : Claim7 := { stood := { row := fnExactFairBlockUptoRow, standIns := [], harness := (true, "a6fed0e2e30cec7e57cdf18f676b11e49e52a8641b7187e7267646618395919a"), looks := false }, kinds := [], alts := [], laidByText := true, laidKinds := [.data, .pinned], laidTests := true, laidLooks := .later }
def FnExactFairBlockUptoCardSaid : Prop := Claim7.holds Tryd.pinned (.plain (OpenSpec.upto fnExactFairBlockSpec)) fnExactFairBlockUptoCard
end Rows
end Go.Proofs.YtfageonhlmhhpaaDoor
