/-
  DERIVED. GIVEN WITH THE SEED: THE CARDS: each row of YthkiabcdkhpheaaDoorRows.lean that lists a variable, with what it lists TIED to the program's text (the seventh form; the later family's looks); each row that meets fmt, with fmt's text TOLD by the authors' own Lean function (tested against real Go, not proved from fmt's source: count such statements apart). THE CARD IS WHAT COUNTS. Prove the row's statement (the work); the ties are given (YthkiabcdkhpheaaDoorTie.lean); close each card by the builder's one call (the guide's Derived/Test/ToyasCard.lean, 'card_holds'). Laid BY PROGRAM, IN A SANDBOX (cutbox-door.mjs). By AI agents, Wed Nov 11 2026. No macro, syntax, notation, axiom, sorry.
-/
import Derived.Test.YthkiabcdkhpheaaDoorRows
import GoSem.ClaimSeven
namespace Go.Proofs.YthkiabcdkhpheaaDoor
namespace Rows

/-- THE TIED CARD OF 'constraintlaw02.NameKinds'. -/
def nameKindsCard : Claim7 := { stood := { row := nameKindsRow, standIns := [], harness := (true, "af00f0414135e73dc2e93efbb17d41b68d5d3bc946e3d729e91c3e6b3200e33e"), looks := true }, kinds := [], alts := [], laidByText := true, laidKinds := [.data, .data, .data, .sentinel, .sentinel], laidTests := true, laidLooks := .later }
def NameKindsCardSaid : Prop := Claim7.holds Tryd.pinned (.plain (OpenSpec.ofChange nameKindsSpec)) nameKindsCard

/-- THE TIED CARD OF 'constraintlaw02.NameApart'. -/
def nameApartCard : Claim7 := { stood := { row := nameApartRow, standIns := [], harness := (true, "af00f0414135e73dc2e93efbb17d41b68d5d3bc946e3d729e91c3e6b3200e33e"), looks := true }, kinds := [], alts := [], laidByText := true, laidKinds := [.data, .data, .data, .sentinel, .sentinel], laidTests := true, laidLooks := .later }
def NameApartCardSaid : Prop := Claim7.holds Tryd.pinned (.plain (OpenSpec.ofChange nameApartSpec)) nameApartCard

/-- THE TIED CARD OF 'constraintlaw02.NameLabels'. -/
def nameLabelsCard : Claim7 := { stood := { row := nameLabelsRow, standIns := [], harness := (true, "af00f0414135e73dc2e93efbb17d41b68d5d3bc946e3d729e91c3e6b3200e33e"), looks := true }, kinds := [], alts := [], laidByText := true, laidKinds := [.data, .data, .data, .sentinel, .sentinel], laidTests := true, laidLooks := .later }
def NameLabelsCardSaid : Prop := Claim7.holds Tryd.pinned (.plain (OpenSpec.ofChange nameLabelsSpec)) nameLabelsCard

/-- THE TIED CARD OF 'constraintlaw02.NameNumbers'. -/
def nameNumbersCard : Claim7 := { stood := { row := nameNumbersRow, standIns := [], harness := (true, "af00f0414135e73dc2e93efbb17d41b68d5d3bc946e3d729e91c3e6b3200e33e"), looks := true }, kinds := [], alts := [], laidByText := true, laidKinds := [.data, .data, .data, .sentinel, .sentinel], laidTests := true, laidLooks := .later }
def NameNumbersCardSaid : Prop := Claim7.holds Tryd.pinned (.plain (OpenSpec.ofChange nameNumbersSpec)) nameNumbersCard

/-- THE TIED CARD OF 'constraintlaw02.NameLengths'. -/
def nameLengthsCard : Claim7 := { stood := { row := nameLengthsRow, standIns := [], harness := (true, "af00f0414135e73dc2e93efbb17d41b68d5d3bc946e3d729e91c3e6b3200e33e"), looks := true }, kinds := [], alts := [], laidByText := true, laidKinds := [.data, .data, .data, .sentinel, .sentinel], laidTests := true, laidLooks := .later }
def NameLengthsCardSaid : Prop := Claim7.holds Tryd.pinned (.plain (OpenSpec.ofChange nameLengthsSpec)) nameLengthsCard

/-- THE SECOND FORM's CARD OF 'constraintlaw02.NameKinds'. -/
def nameKindsUptoCard : Claim7 := { stood := { row := nameKindsUptoRow, standIns := [], harness := (true, "af00f0414135e73dc2e93efbb17d41b68d5d3bc946e3d729e91c3e6b3200e33e"), looks := true }, kinds := [], alts := [], laidByText := true, laidKinds := [.data, .data, .data, .sentinel, .sentinel], laidTests := true, laidLooks := .later }
def NameKindsUptoCardSaid : Prop := Claim7.holds Tryd.pinned (.plain (OpenSpec.upto nameKindsSpec)) nameKindsUptoCard

/-- THE SECOND FORM's CARD OF 'constraintlaw02.NameApart'. -/
def nameApartUptoCard : Claim7 := { stood := { row := nameApartUptoRow, standIns := [], harness := (true, "af00f0414135e73dc2e93efbb17d41b68d5d3bc946e3d729e91c3e6b3200e33e"), looks := true }, kinds := [], alts := [], laidByText := true, laidKinds := [.data, .data, .data, .sentinel, .sentinel], laidTests := true, laidLooks := .later }
def NameApartUptoCardSaid : Prop := Claim7.holds Tryd.pinned (.plain (OpenSpec.upto nameApartSpec)) nameApartUptoCard

/-- THE SECOND FORM's CARD OF 'constraintlaw02.NameLabels'. -/
def nameLabelsUptoCard : Claim7 := { stood := { row := nameLabelsUptoRow, standIns := [], harness := (true, "af00f0414135e73dc2e93efbb17d41b68d5d3bc946e3d729e91c3e6b3200e33e"), looks := true }, kinds := [], alts := [], laidByText := true, laidKinds := [.data, .data, .data, .sentinel, .sentinel], laidTests := true, laidLooks := .later }
def NameLabelsUptoCardSaid : Prop := Claim7.holds Tryd.pinned (.plain (OpenSpec.upto nameLabelsSpec)) nameLabelsUptoCard

/-- THE SECOND FORM's CARD OF 'constraintlaw02.NameNumbers'. -/
def nameNumbersUptoCard : Claim7 := { stood := { row := nameNumbersUptoRow, standIns := [], harness := (true, "af00f0414135e73dc2e93efbb17d41b68d5d3bc946e3d729e91c3e6b3200e33e"), looks := true }, kinds := [], alts := [], laidByText := true, laidKinds := [.data, .data, .data, .sentinel, .sentinel], laidTests := true, laidLooks := .later }
def NameNumbersUptoCardSaid : Prop := Claim7.holds Tryd.pinned (.plain (OpenSpec.upto nameNumbersSpec)) nameNumbersUptoCard

/-- THE SECOND FORM's CARD OF 'constraintlaw02.NameLengths'. -/
def nameLengthsUptoCard : Claim7 := { stood := { row := nameLengthsUptoRow, standIns := [], harness := (true, "af00f0414135e73dc2e93efbb17d41b68d5d3bc946e3d729e91c3e6b3200e33e"), looks := true }, kinds := [], alts := [], laidByText := true, laidKinds := [.data, .data, .data, .sentinel, .sentinel], laidTests := true, laidLooks := .later }
def NameLengthsUptoCardSaid : Prop := Claim7.holds Tryd.pinned (.plain (OpenSpec.upto nameLengthsSpec)) nameLengthsUptoCard
end Rows
end Go.Proofs.YthkiabcdkhpheaaDoor
