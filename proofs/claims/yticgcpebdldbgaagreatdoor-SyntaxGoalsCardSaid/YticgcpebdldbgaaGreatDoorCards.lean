/-
  DERIVED. GIVEN WITH THE SEED: THE CARDS: each row of YticgcpebdldbgaaGreatDoorRows.lean that lists a variable, with what it lists TIED to the program's text (the seventh form; the later family's looks); each row that meets fmt, with fmt's text TOLD by the authors' own Lean function (tested against real Go, not proved from fmt's source: count such statements apart). THE CARD IS WHAT COUNTS. Prove the row's statement (the work); the ties are given (YticgcpebdldbgaaGreatDoorTie.lean); close each card by the builder's one call (the guide's Derived/Test/ToyasCard.lean, 'card_holds'). Laid BY PROGRAM, IN A SANDBOX (cutbox-door.mjs). By AI agents, Wed Nov 11 2026. No macro, syntax, notation, axiom, sorry.
-/
import Derived.Test.YticgcpebdldbgaaGreatDoorRows
import GoSem.ClaimSeven
namespace Go.Proofs.YticgcpebdldbgaaGreatDoor
namespace Rows

/-- THE TIED CARD OF 'constraintlaw13.SyntaxPrograms'. -/
def syntaxProgramsCard : Claim7 := { stood := { row := syntaxProgramsRow, standIns := [], harness := (true, "24002b1e77db24c0629f2eea473b2fc566e853d46d4c42eec2d646e82c40d952"), looks := true }, kinds := [], alts := [], laidByText := true, laidKinds := [.data], laidTests := true, laidLooks := .later }
def SyntaxProgramsCardSaid : Prop := Claim7.holds Tryz.pinned (.plain (OpenSpec.ofChange syntaxProgramsSpec)) syntaxProgramsCard

/-- THE TIED CARD OF 'constraintlaw13.SyntaxGoals'. -/
def syntaxGoalsCard : Claim7 := { stood := { row := syntaxGoalsRow, standIns := [], harness := (true, "24002b1e77db24c0629f2eea473b2fc566e853d46d4c42eec2d646e82c40d952"), looks := true }, kinds := [], alts := [], laidByText := true, laidKinds := [.data], laidTests := true, laidLooks := .later }
def SyntaxGoalsCardSaid : Prop := Claim7.holds Tryz.pinned (.plain (OpenSpec.ofChange syntaxGoalsSpec)) syntaxGoalsCard

/-- THE TIED CARD OF 'constraintlaw13.SyntaxRules'. -/
def syntaxRulesCard : Claim7 := { stood := { row := syntaxRulesRow, standIns := [], harness := (true, "24002b1e77db24c0629f2eea473b2fc566e853d46d4c42eec2d646e82c40d952"), looks := true }, kinds := [], alts := [], laidByText := true, laidKinds := [.data], laidTests := true, laidLooks := .later }
def SyntaxRulesCardSaid : Prop := Claim7.holds Tryz.pinned (.plain (OpenSpec.ofChange syntaxRulesSpec)) syntaxRulesCard

/-- THE SECOND FORM's CARD OF 'constraintlaw13.SyntaxPrograms'. -/
def syntaxProgramsUptoCard : Claim7 := { stood := { row := syntaxProgramsUptoRow, standIns := [], harness := (true, "24002b1e77db24c0629f2eea473b2fc566e853d46d4c42eec2d646e82c40d952"), looks := true }, kinds := [], alts := [], laidByText := true, laidKinds := [.data], laidTests := true, laidLooks := .later }
def SyntaxProgramsUptoCardSaid : Prop := Claim7.holds Tryz.pinned (.plain (OpenSpec.upto syntaxProgramsSpec)) syntaxProgramsUptoCard

/-- THE SECOND FORM's CARD OF 'constraintlaw13.SyntaxGoals'. -/
def syntaxGoalsUptoCard : Claim7 := { stood := { row := syntaxGoalsUptoRow, standIns := [], harness := (true, "24002b1e77db24c0629f2eea473b2fc566e853d46d4c42eec2d646e82c40d952"), looks := true }, kinds := [], alts := [], laidByText := true, laidKinds := [.data], laidTests := true, laidLooks := .later }
def SyntaxGoalsUptoCardSaid : Prop := Claim7.holds Tryz.pinned (.plain (OpenSpec.upto syntaxGoalsSpec)) syntaxGoalsUptoCard

/-- THE SECOND FORM's CARD OF 'constraintlaw13.SyntaxRules'. -/
def syntaxRulesUptoCard : Claim7 := { stood := { row := syntaxRulesUptoRow, standIns := [], harness := (true, "24002b1e77db24c0629f2eea473b2fc566e853d46d4c42eec2d646e82c40d952"), looks := true }, kinds := [], alts := [], laidByText := true, laidKinds := [.data], laidTests := true, laidLooks := .later }
def SyntaxRulesUptoCardSaid : Prop := Claim7.holds Tryz.pinned (.plain (OpenSpec.upto syntaxRulesSpec)) syntaxRulesUptoCard
end Rows
end Go.Proofs.YticgcpebdldbgaaGreatDoor
