/-
  DERIVED. GIVEN WITH THE SEED: THE CARDS: each row of YtpineiocjaajnaaDoorRows.lean that lists a variable, with what it lists TIED to the program's text (the seventh form; the later family's looks); each row that meets fmt, with fmt's text TOLD by the authors' own Lean function (tested against real Go, not proved from fmt's source: count such statements apart). THE CARD IS WHAT COUNTS. Prove the row's statement (the work); the ties are given (YtpineiocjaajnaaDoorTie.lean); close each card by the builder's one call (the guide's Derived/Test/ToyasCard.lean, 'card_holds'). Laid BY PROGRAM, IN A SANDBOX (cutbox-door.mjs). By AI agents, Wed Nov 11 2026. No macro, syntax, notation, axiom, sorry.
-/
import Derived.Test.YtpineiocjaajnaaDoorRows
import GoSem.ClaimSeven
namespace Go.Proofs.YtpineiocjaajnaaDoor
namespace Rows

/-- THE TIED CARD OF 'laws.FnExactPatternLaw'. -/
def fnExactPatternLawCard : Claim7 := { stood := { row := fnExactPatternLawRow, standIns := [], harness := (true, "3d78f5a7155e067c558ba5a7e9399a7a716ea86643b1d69f9d8435f3572bb94e"), looks := false }, kinds := [], alts := [], laidByText := true, laidKinds := [.data, .pinned], laidTests := true, laidLooks := .later }
def FnExactPatternLawCardSaid : Prop := Claim7.holds Tryd.pinned (.plain (OpenSpec.ofChange fnExactPatternLawSpec)) fnExactPatternLawCard

/-- THE TIED CARD OF 'laws.FnExactLawText'. -/
def fnExactLawTextCard : Claim7 := { stood := { row := fnExactLawTextRow, standIns := [], harness := (true, "3d78f5a7155e067c558ba5a7e9399a7a716ea86643b1d69f9d8435f3572bb94e"), looks := false }, kinds := [], alts := [], laidByText := true, laidKinds := [.data, .data, .data], laidTests := true, laidLooks := .later }
def FnExactLawTextCardSaid : Prop := Claim7.holds Tryd.pinned (.plain (OpenSpec.ofChange fnExactLawTextSpec)) fnExactLawTextCard

/-- THE TIED CARD OF 'laws.FnExactCongruenceText'. -/
def fnExactCongruenceTextCard : Claim7 := { stood := { row := fnExactCongruenceTextRow, standIns := [], harness := (true, "3d78f5a7155e067c558ba5a7e9399a7a716ea86643b1d69f9d8435f3572bb94e"), looks := false }, kinds := [], alts := [], laidByText := true, laidKinds := [.data, .data, .data], laidTests := true, laidLooks := .later }
def FnExactCongruenceTextCardSaid : Prop := Claim7.holds Tryd.pinned (.plain (OpenSpec.ofChange fnExactCongruenceTextSpec)) fnExactCongruenceTextCard

/-- THE TIED CARD OF 'laws.FnCoinChance'. -/
def fnCoinChanceCard : Claim7 := { stood := { row := fnCoinChanceRow, standIns := [], harness := (true, "3d78f5a7155e067c558ba5a7e9399a7a716ea86643b1d69f9d8435f3572bb94e"), looks := false }, kinds := [], alts := [], laidByText := true, laidKinds := [.data, .pinned], laidTests := true, laidLooks := .later }
def FnCoinChanceCardSaid : Prop := Claim7.holds Tryd.pinned (.plain (OpenSpec.ofChange fnCoinChanceSpec)) fnCoinChanceCard

/-- THE SECOND FORM's CARD OF 'laws.FnExactPatternLaw'. -/
def fnExactPatternLawUptoCard : Claim7 := { stood := { row := fnExactPatternLawUptoRow, standIns := [], harness := (true, "3d78f5a7155e067c558ba5a7e9399a7a716ea86643b1d69f9d8435f3572bb94e"), looks := false }, kinds := [], alts := [], laidByText := true, laidKinds := [.data, .pinned], laidTests := true, laidLooks := .later }
def FnExactPatternLawUptoCardSaid : Prop := Claim7.holds Tryd.pinned (.plain (OpenSpec.upto fnExactPatternLawSpec)) fnExactPatternLawUptoCard

/-- THE SECOND FORM's CARD OF 'laws.FnExactLawText'. -/
def fnExactLawTextUptoCard : Claim7 := { stood := { row := fnExactLawTextUptoRow, standIns := [], harness := (true, "3d78f5a7155e067c558ba5a7e9399a7a716ea86643b1d69f9d8435f3572bb94e"), looks := false }, kinds := [], alts := [], laidByText := true, laidKinds := [.data, .data, .data], laidTests := true, laidLooks := .later }
def FnExactLawTextUptoCardSaid : Prop := Claim7.holds Tryd.pinned (.plain (OpenSpec.upto fnExactLawTextSpec)) fnExactLawTextUptoCard

/-- THE SECOND FORM's CARD OF 'laws.FnExactCongruenceText'. -/
def fnExactCongruenceTextUptoCard : Claim7 := { stood := { row := fnExactCongruenceTextUptoRow, standIns := [], harness := (true, "3d78f5a7155e067c558ba5a7e9399a7a716ea86643b1d69f9d8435f3572bb94e"), looks := false }, kinds := [], alts := [], laidByText := true, laidKinds := [.data, .data, .data], laidTests := true, laidLooks := .later }
def FnExactCongruenceTextUptoCardSaid : Prop := Claim7.holds Tryd.pinned (.plain (OpenSpec.upto fnExactCongruenceTextSpec)) fnExactCongruenceTextUptoCard

/-- THE SECOND FORM's CARD OF 'laws.FnCoinChance'. -/
def fnCoinChanceUptoCard : Claim7 := { stood := { row := fnCoinChanceUptoRow, standIns := [], harness := (true, "3d78f5a7155e067c558ba5a7e9399a7a716ea86643b1d69f9d8435f3572bb94e"), looks := false }, kinds := [], alts := [], laidByText := true, laidKinds := [.data, .pinned], laidTests := true, laidLooks := .later }
def FnCoinChanceUptoCardSaid : Prop := Claim7.holds Tryd.pinned (.plain (OpenSpec.upto fnCoinChanceSpec)) fnCoinChanceUptoCard
end Rows
end Go.Proofs.YtpineiocjaajnaaDoor
