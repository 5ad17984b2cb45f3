/-
  DERIVED. GIVEN WITH THE SEED: THE CARDS: each row of YtehjodmnajgdgaaGreatDoorRows.lean that lists a variable, with what it lists TIED to the program's text (the seventh form; the later family's looks); each row that meets fmt, with fmt's text TOLD by the authors' own Lean function (tested against real Go, not proved from fmt's source: count such statements apart). THE CARD IS WHAT COUNTS. Prove the row's statement (the work); the ties are given (YtehjodmnajgdgaaGreatDoorTie.lean); close each card by the builder's one call (the guide's Derived/Test/ToyasCard.lean, 'card_holds'). Laid BY PROGRAM, IN A SANDBOX (cutbox-door.mjs). By AI agents, Wed Nov 11 2026. No macro, syntax, notation, axiom, sorry.
-/
import Derived.Test.YtehjodmnajgdgaaGreatDoorRows
import GoSem.ClaimSeven
namespace Go.Proofs.YtehjodmnajgdgaaGreatDoor
namespace Rows

/-- THE TIED CARD OF 'constraintlaw05.TermtextTexts'. -/
def termtextTextsCard : Claim7 := { stood := { row := termtextTextsRow, standIns := [], harness := (true, "6721fbf1d3afd5cb9f51cf236997e51d69722e1d534d905b59e8ca8ba47bbf60"), looks := true }, kinds := [], alts := [], laidByText := true, laidKinds := [.data, .data, .data, .data, .sentinel, .sentinel, .pinned], laidTests := true, laidLooks := .later }
def TermtextTextsCardSaid : Prop := Claim7.holds Tryz.pinned (.plain (OpenSpec.ofChange termtextTextsSpec)) termtextTextsCard

/-- THE TIED CARD OF 'constraintlaw05.TermtextGoals'. -/
def termtextGoalsCard : Claim7 := { stood := { row := termtextGoalsRow, standIns := [], harness := (true, "6721fbf1d3afd5cb9f51cf236997e51d69722e1d534d905b59e8ca8ba47bbf60"), looks := true }, kinds := [], alts := [], laidByText := true, laidKinds := [.data, .data, .data, .data, .sentinel, .sentinel, .pinned], laidTests := true, laidLooks := .later }
def TermtextGoalsCardSaid : Prop := Claim7.holds Tryz.pinned (.plain (OpenSpec.ofChange termtextGoalsSpec)) termtextGoalsCard

/-- THE TIED CARD OF 'constraintlaw05.TermtextParses'. -/
def termtextParsesCard : Claim7 := { stood := { row := termtextParsesRow, standIns := [], harness := (true, "6721fbf1d3afd5cb9f51cf236997e51d69722e1d534d905b59e8ca8ba47bbf60"), looks := true }, kinds := [], alts := [], laidByText := true, laidKinds := [.data, .data, .data, .data, .sentinel, .sentinel, .pinned], laidTests := true, laidLooks := .later }
def TermtextParsesCardSaid : Prop := Claim7.holds Tryz.pinned (.plain (OpenSpec.ofChange termtextParsesSpec)) termtextParsesCard

/-- THE TIED CARD OF 'constraintlaw05.TermtextReturns'. -/
def termtextReturnsCard : Claim7 := { stood := { row := termtextReturnsRow, standIns := [], harness := (true, "6721fbf1d3afd5cb9f51cf236997e51d69722e1d534d905b59e8ca8ba47bbf60"), looks := true }, kinds := [], alts := [], laidByText := true, laidKinds := [.data, .data, .data, .data, .sentinel, .sentinel, .pinned], laidTests := true, laidLooks := .later }
def TermtextReturnsCardSaid : Prop := Claim7.holds Tryz.pinned (.plain (OpenSpec.ofChange termtextReturnsSpec)) termtextReturnsCard

/-- THE TIED CARD OF 'constraintlaw05.TermtextAtoms'. -/
def termtextAtomsCard : Claim7 := { stood := { row := termtextAtomsRow, standIns := [], harness := (true, "6721fbf1d3afd5cb9f51cf236997e51d69722e1d534d905b59e8ca8ba47bbf60"), looks := true }, kinds := [], alts := [], laidByText := true, laidKinds := [.data, .data, .data, .data, .sentinel, .sentinel, .pinned], laidTests := true, laidLooks := .later }
def TermtextAtomsCardSaid : Prop := Claim7.holds Tryz.pinned (.plain (OpenSpec.ofChange termtextAtomsSpec)) termtextAtomsCard

/-- THE TIED CARD OF 'constraintlaw05.TermtextChains'. -/
def termtextChainsCard : Claim7 := { stood := { row := termtextChainsRow, standIns := [], harness := (true, "6721fbf1d3afd5cb9f51cf236997e51d69722e1d534d905b59e8ca8ba47bbf60"), looks := true }, kinds := [], alts := [], laidByText := true, laidKinds := [.data, .data, .data, .data, .sentinel, .sentinel, .pinned], laidTests := true, laidLooks := .later }
def TermtextChainsCardSaid : Prop := Claim7.holds Tryz.pinned (.plain (OpenSpec.ofChange termtextChainsSpec)) termtextChainsCard

/-- THE SECOND FORM's CARD OF 'constraintlaw05.TermtextTexts'. -/
def termtextTextsUptoCard : Claim7 := { stood := { row := termtextTextsUptoRow, standIns := [], harness := (true, "6721fbf1d3afd5cb9f51cf236997e51d69722e1d534d905b59e8ca8ba47bbf60"), looks := true }, kinds := [], alts := [], laidByText := true, laidKinds := [.data, .data, .data, .data, .sentinel, .sentinel, .pinned], laidTests := true, laidLooks := .later }
def TermtextTextsUptoCardSaid : Prop := Claim7.holds Tryz.pinned (.plain (OpenSpec.upto termtextTextsSpec)) termtextTextsUptoCard

/-- THE SECOND FORM's CARD OF 'constraintlaw05.TermtextGoals'. -/
def termtextGoalsUptoCard : Claim7 := { stood := { row := termtextGoalsUptoRow, standIns := [], harness := (true, "6721fbf1d3afd5cb9f51cf236997e51d69722e1d534d905b59e8ca8ba47bbf60"), looks := true }, kinds := [], alts := [], laidByText := true, laidKinds := [.data, .data, .data, .data, .sentinel, .sentinel, .pinned], laidTests := true, laidLooks := .later }
def TermtextGoalsUptoCardSaid : Prop := Claim7.holds Tryz.pinned (.plain (OpenSpec.upto termtextGoalsSpec)) termtextGoalsUptoCard

/-- THE SECOND FORM's CARD OF 'constraintlaw05.TermtextParses'. -/
def termtextParsesUptoCard : Claim7 := { stood := { row := termtextParsesUptoRow, standIns := [], harness := (true, "6721fbf1d3afd5cb9f51cf236997e51d69722e1d534d905b59e8ca8ba47bbf60"), looks := true }, kinds := [], alts := [], laidByText := true, laidKinds := [.data, .data, .data, .data, .sentinel, .sentinel, .pinned], laidTests := true, laidLooks := .later }
def TermtextParsesUptoCardSaid : Prop := Claim7.holds Tryz.pinned (.plain (OpenSpec.upto termtextParsesSpec)) termtextParsesUptoCard

/-- THE SECOND FORM's CARD OF 'constraintlaw05.TermtextReturns'. -/
def termtextReturnsUptoCard : Claim7 := { stood := { row := termtextReturnsUptoRow, standIns := [], harness := (true, "6721fbf1d3afd5cb9f51cf236997e51d69722e1d534d905b59e8ca8ba47bbf60"), looks := true }, kinds := [], alts := [], laidByText := true, laidKinds := [.data, .data, .data, .data, .sentinel, .sentinel, .pinned], laidTests := true, laidLooks := .later }
def TermtextReturnsUptoCardSaid : Prop := Claim7.holds Tryz.pinned (.plain (OpenSpec.upto termtextReturnsSpec)) termtextReturnsUptoCard

/-- THE SECOND FORM's CARD OF 'constraintlaw05.TermtextAtoms'. -/
def termtextAtomsUptoCard : Claim7 := { stood := { row := termtextAtomsUptoRow, standIns := [], harness := (true, "6721fbf1d3afd5cb9f51cf236997e51d69722e1d534d905b59e8ca8ba47bbf60"), looks := true }, kinds := [], alts := [], laidByText := true, laidKinds := [.data, .data, .data, .data, .sentinel, .sentinel, .pinned], laidTests := true, laidLooks := .later }
def TermtextAtomsUptoCardSaid : Prop := Claim7.holds Tryz.pinned (.plain (OpenSpec.upto termtextAtomsSpec)) termtextAtomsUptoCard

/-- THE SECOND FORM's CARD OF 'constraintlaw05.TermtextChains'. -/
def termtextChainsUptoCard : Claim7 := { stood := { row := termtextChainsUptoRow, standIns := [], harness := (true, "6721fbf1d3afd5cb9f51cf236997e51d69722e1d534d905b59e8ca8ba47bbf60"), looks := true }, kinds := [], alts := [], laidByText := true, laidKinds := [.data, .data, .data, .data, .sentinel, .sentinel, .pinned], laidTests := true, laidLooks := .later }
def TermtextChainsUptoCardSaid : Prop := Claim7.holds Tryz.pinned (.plain (OpenSpec.upto termtextChainsSpec)) termtextChainsUptoCard
end Rows
end Go.Proofs.YtehjodmnajgdgaaGreatDoor
