/-
  DERIVED. GIVEN WITH THE SEED: THE CARDS: each row of YtniljpjjnmkoaaaGreatDoorRows.lean that lists a variable, with what it lists TIED to the program's text (the seventh form; the later family's looks); each row that meets fmt, with fmt's text TOLD by the authors' own Lean function (tested against real Go, not proved from fmt's source: count such statements apart). THE CARD IS WHAT COUNTS. Prove the row's statement (the work); the ties are given (YtniljpjjnmkoaaaGreatDoorTie.lean); close each card by the builder's one call (the guide's Derived/Test/ToyasCard.lean, 'card_holds'). Laid BY PROGRAM, IN A SANDBOX (cutbox-door.mjs). By AI agents, Wed Nov 11 2026. No macro, syntax, notation, axiom, sorry.
-/
import Derived.Test.YtniljpjjnmkoaaaGreatDoorRows
import GoSem.ClaimSeven
namespace Go.Proofs.YtniljpjjnmkoaaaGreatDoor
namespace Rows

/-- THE TIED CARD OF 'constraintlaw24.CanonAgain'. -/
def canonAgainCard : Claim7 := { stood := { row := canonAgainRow, standIns := [], harness := (true, "a65ad1064939a48ba6d883b339194f2bae429dba7bb8e8bd09bce0241c7e451a"), looks := false }, kinds := [], alts := [], laidByText := true, laidKinds := [.data, .data, .data], laidTests := true, laidLooks := .later }
def CanonAgainCardSaid : Prop := Claim7.holds Tryz.pinned (.plain (OpenSpec.ofChange canonAgainSpec)) canonAgainCard

/-- THE TIED CARD OF 'constraintlaw24.CanonRenames'. -/
def canonRenamesCard : Claim7 := { stood := { row := canonRenamesRow, standIns := [], harness := (true, "a65ad1064939a48ba6d883b339194f2bae429dba7bb8e8bd09bce0241c7e451a"), looks := false }, kinds := [], alts := [], laidByText := true, laidKinds := [.data, .data, .data], laidTests := true, laidLooks := .later }
def CanonRenamesCardSaid : Prop := Claim7.holds Tryz.pinned (.plain (OpenSpec.ofChange canonRenamesSpec)) canonRenamesCard

/-- THE TIED CARD OF 'constraintlaw24.CanonCompares'. -/
def canonComparesCard : Claim7 := { stood := { row := canonComparesRow, standIns := [], harness := (true, "a65ad1064939a48ba6d883b339194f2bae429dba7bb8e8bd09bce0241c7e451a"), looks := false }, kinds := [], alts := [], laidByText := true, laidKinds := [.data, .data, .data], laidTests := true, laidLooks := .later }
def CanonComparesCardSaid : Prop := Claim7.holds Tryz.pinned (.plain (OpenSpec.ofChange canonComparesSpec)) canonComparesCard

/-- THE TIED CARD OF 'constraintlaw24.CanonTexts'. -/
def canonTextsCard : Claim7 := { stood := { row := canonTextsRow, standIns := [], harness := (true, "a65ad1064939a48ba6d883b339194f2bae429dba7bb8e8bd09bce0241c7e451a"), looks := false }, kinds := [], alts := [], laidByText := true, laidKinds := [.data, .data, .data], laidTests := true, laidLooks := .later }
def CanonTextsCardSaid : Prop := Claim7.holds Tryz.pinned (.plain (OpenSpec.ofChange canonTextsSpec)) canonTextsCard

/-- THE TIED CARD OF 'constraintlaw24.CanonDiffers'. -/
def canonDiffersCard : Claim7 := { stood := { row := canonDiffersRow, standIns := [], harness := (true, "a65ad1064939a48ba6d883b339194f2bae429dba7bb8e8bd09bce0241c7e451a"), looks := false }, kinds := [], alts := [], laidByText := true, laidKinds := [.data, .data, .data], laidTests := true, laidLooks := .later }
def CanonDiffersCardSaid : Prop := Claim7.holds Tryz.pinned (.plain (OpenSpec.ofChange canonDiffersSpec)) canonDiffersCard

/-- THE TIED CARD OF 'constraintlaw24.CanonAnswers'. -/
def canonAnswersCard : Claim7 := { stood := { row := canonAnswersRow, standIns := [], harness := (true, "a65ad1064939a48ba6d883b339194f2bae429dba7bb8e8bd09bce0241c7e451a"), looks := false }, kinds := [], alts := [], laidByText := true, laidKinds := [.data, .data, .data], laidTests := true, laidLooks := .later }
def CanonAnswersCardSaid : Prop := Claim7.holds Tryz.pinned (.plain (OpenSpec.ofChange canonAnswersSpec)) canonAnswersCard

/-- THE SECOND FORM's CARD OF 'constraintlaw24.CanonAgain'. -/
def canonAgainUptoCard : Claim7 := { stood := { row := canonAgainUptoRow, standIns := [], harness := (true, "a65ad1064939a48ba6d883b339194f2bae429dba7bb8e8bd09bce0241c7e451a"), looks := false }, kinds := [], alts := [], laidByText := true, laidKinds := [.data, .data, .data], laidTests := true, laidLooks := .later }
def CanonAgainUptoCardSaid : Prop := Claim7.holds Tryz.pinned (.plain (OpenSpec.upto canonAgainSpec)) canonAgainUptoCard

/-- THE SECOND FORM's CARD OF 'constraintlaw24.CanonRenames'. -/
def canonRenamesUptoCard : Claim7 := { stood := { row := canonRenamesUptoRow, standIns := [], harness := (true, "a65ad1064939a48ba6d883b339194f2bae429dba7bb8e8bd09bce0241c7e451a"), looks := false }, kinds := [], alts := [], laidByText := true, laidKinds := [.data, .data, .data], laidTests := true, laidLooks := .later }
def CanonRenamesUptoCardSaid : Prop := Claim7.holds Tryz.pinned (.plain (OpenSpec.upto canonRenamesSpec)) canonRenamesUptoCard

/-- THE SECOND FORM's CARD OF 'constraintlaw24.CanonCompares'. -/
def canonComparesUptoCard : Claim7 := { stood := { row := canonComparesUptoRow, standIns := [], harness := (true, "a65ad1064939a48ba6d883b339194f2bae429dba7bb8e8bd09bce0241c7e451a"), looks := false }, kinds := [], alts := [], laidByText := true, laidKinds := [.data, .data, .data], laidTests := true, laidLooks := .later }
def CanonComparesUptoCardSaid : Prop := Claim7.holds Tryz.pinned (.plain (OpenSpec.upto canonComparesSpec)) canonComparesUptoCard

/-- THE SECOND FORM's CARD OF 'constraintlaw24.CanonTexts'. -/
def canonTextsUptoCard : Claim7 := { stood := { row := canonTextsUptoRow, standIns := [], harness := (true, "a65ad1064939a48ba6d883b339194f2bae429dba7bb8e8bd09bce0241c7e451a"), looks := false }, kinds := [], alts := [], laidByText := true, laidKinds := [.data, .data, .data], laidTests := true, laidLooks := .later }
def CanonTextsUptoCardSaid : Prop := Claim7.holds Tryz.pinned (.plain (OpenSpec.upto canonTextsSpec)) canonTextsUptoCard

/-- THE SECOND FORM's CARD OF 'constraintlaw24.CanonDiffers'. -/
def canonDiffersUptoCard : Claim7 := { stood := { row := canonDiffersUptoRow, standIns := [], harness := (true, "a65ad1064939a48ba6d883b339194f2bae429dba7bb8e8bd09bce0241c7e451a"), looks := false }, kinds := [], alts := [], laidByText := true, laidKinds := [.data, .data, .data], laidTests := true, laidLooks := .later }
def CanonDiffersUptoCardSaid : Prop := Claim7.holds Tryz.pinned (.plain (OpenSpec.upto canonDiffersSpec)) canonDiffersUptoCard

/-- THE SECOND FORM's CARD OF 'constraintlaw24.CanonAnswers'. -/
def canonAnswersUptoCard : Claim7 := { stood := { row := canonAnswersUptoRow, standIns := [], harness := (true, "a65ad1064939a48ba6d883b339194f2bae429dba7bb8e8bd09bce0241c7e451a"), looks := false }, kinds := [], alts := [], laidByText := true, laidKinds := [.data, .data, .data], laidTests := true, laidLooks := .later }
def CanonAnswersUptoCardSaid : Prop := Claim7.holds Tryz.pinned (.plain (OpenSpec.upto canonAnswersSpec)) canonAnswersUptoCard
end Rows
end Go.Proofs.YtniljpjjnmkoaaaGreatDoor
