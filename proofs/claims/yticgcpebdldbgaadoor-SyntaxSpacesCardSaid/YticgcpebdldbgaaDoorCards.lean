/-
  DERIVED. GIVEN WITH THE SEED: THE CARDS: each row of YticgcpebdldbgaaDoorRows.lean that lists a variable, with what it lists TIED to the program's text (the seventh form; the later family's looks); each row that meets fmt, with fmt's text TOLD by the authors' own Lean function (tested against real Go, not proved from fmt's source: count such statements apart). THE CARD IS WHAT COUNTS. Prove the row's statement (the work); the ties are given (YticgcpebdldbgaaDoorTie.lean); close each card by the builder's one call (the guide's Derived/Test/ToyasCard.lean, 'card_holds'). Laid BY PROGRAM, IN A SANDBOX (cutbox-door.mjs). By AI agents, Wed Nov 11 2026. No macro, syntax, notation, axiom, sorry.
-/
import Derived.Test.YticgcpebdldbgaaDoorRows
import GoSem.ClaimSeven
namespace Go.Proofs.YticgcpebdldbgaaDoor
namespace Rows

/-- THE TIED CARD OF 'constraintlaw13.SyntaxValid'. -/
def syntaxValidCard : Claim7 := { stood := { row := syntaxValidRow, standIns := [], harness := (true, "d4de6c7262dcdc68470ee8429c0da2e9d738c2b7b340b52117b71d389a7183d9"), looks := true }, kinds := [], alts := [], laidByText := true, laidKinds := [.data], laidTests := true, laidLooks := .later }
def SyntaxValidCardSaid : Prop := Claim7.holds Tryd.pinned (.plain (OpenSpec.ofChange syntaxValidSpec)) syntaxValidCard

/-- THE TIED CARD OF 'constraintlaw13.SyntaxSpaces'. -/
def syntaxSpacesCard : Claim7 := { stood := { row := syntaxSpacesRow, standIns := [], harness := (true, "d4de6c7262dcdc68470ee8429c0da2e9d738c2b7b340b52117b71d389a7183d9"), looks := true }, kinds := [], alts := [], laidByText := true, laidKinds := [.data], laidTests := true, laidLooks := .later }
def SyntaxSpacesCardSaid : Prop := Claim7.holds Tryd.pinned (.plain (OpenSpec.ofChange syntaxSpacesSpec)) syntaxSpacesCard

/-- THE TIED CARD OF 'constraintlaw13.SyntaxAppends'. -/
def syntaxAppendsCard : Claim7 := { stood := { row := syntaxAppendsRow, standIns := [], harness := (true, "d4de6c7262dcdc68470ee8429c0da2e9d738c2b7b340b52117b71d389a7183d9"), looks := true }, kinds := [], alts := [], laidByText := true, laidKinds := [.data], laidTests := true, laidLooks := .later }
def SyntaxAppendsCardSaid : Prop := Claim7.holds Tryd.pinned (.plain (OpenSpec.ofChange syntaxAppendsSpec)) syntaxAppendsCard

/-- THE SECOND FORM's CARD OF 'constraintlaw13.SyntaxValid'. -/
def syntaxValidUptoCard : Claim7 := { stood := { row := syntaxValidUptoRow, standIns := [], harness := (true, "d4de6c7262dcdc68470ee8429c0da2e9d738c2b7b340b52117b71d389a7183d9"), looks := true }, kinds := [], alts := [], laidByText := true, laidKinds := [.data], laidTests := true, laidLooks := .later }
def SyntaxValidUptoCardSaid : Prop := Claim7.holds Tryd.pinned (.plain (OpenSpec.upto syntaxValidSpec)) syntaxValidUptoCard

/-- THE SECOND FORM's CARD OF 'constraintlaw13.SyntaxSpaces'. -/
def syntaxSpacesUptoCard : Claim7 := { stood := { row := syntaxSpacesUptoRow, standIns := [], harness := (true, "d4de6c7262dcdc68470ee8429c0da2e9d738c2b7b340b52117b71d389a7183d9"), looks := true }, kinds := [], alts := [], laidByText := true, laidKinds := [.data], laidTests := true, laidLooks := .later }
def SyntaxSpacesUptoCardSaid : Prop := Claim7.holds Tryd.pinned (.plain (OpenSpec.upto syntaxSpacesSpec)) syntaxSpacesUptoCard

/-- THE SECOND FORM's CARD OF 'constraintlaw13.SyntaxAppends'. -/
def syntaxAppendsUptoCard : Claim7 := { stood := { row := syntaxAppendsUptoRow, standIns := [], harness := (true, "d4de6c7262dcdc68470ee8429c0da2e9d738c2b7b340b52117b71d389a7183d9"), looks := true }, kinds := [], alts := [], laidByText := true, laidKinds := [.data], laidTests := true, laidLooks := .later }
def SyntaxAppendsUptoCardSaid : Prop := Claim7.holds Tryd.pinned (.plain (OpenSpec.upto syntaxAppendsSpec)) syntaxAppendsUptoCard
end Rows
end Go.Proofs.YticgcpebdldbgaaDoor
