/-
  DERIVED. GIVEN WITH THE SEED: THE CARDS: each row of YtenheconhibonaaGreatDoorRows.lean that lists a variable, with what it lists TIED to the program's text (the seventh form; the later family's looks); each row that meets fmt, with fmt's text TOLD by the authors' own Lean function (tested against real Go, not proved from fmt's source: count such statements apart). THE CARD IS WHAT COUNTS. Prove the row's statement (the work); the ties are given (YtenheconhibonaaGreatDoorTie.lean); close each card by the builder's one call (the guide's Derived/Test/ToyasCard.lean, 'card_holds'). Laid BY PROGRAM, IN A SANDBOX (cutbox-door.mjs). By AI agents, Wed Nov 11 2026. No macro, syntax, notation, axiom, sorry.
-/
import Derived.Test.YtenheconhibonaaGreatDoorRows
import GoSem.ClaimSeven
namespace Go.Proofs.YtenheconhibonaaGreatDoor
namespace Rows

/-- THE TIED CARD OF 'constraintlaw14.SourceRules'. -/
def sourceRulesCard : Claim7 := { stood := { row := sourceRulesRow, standIns := [], harness := (true, "11a94f6920779e5f5caf6709fd6aa6074721730d24603131ce9514f553faf583"), looks := true }, kinds := [], alts := [], laidByText := true, laidKinds := [.data, .data, .data], laidTests := true, laidLooks := .later }
def SourceRulesCardSaid : Prop := Claim7.holds Tryz.pinned (.plain (OpenSpec.ofChange sourceRulesSpec)) sourceRulesCard

/-- THE TIED CARD OF 'constraintlaw14.SourceTexts'. -/
def sourceTextsCard : Claim7 := { stood := { row := sourceTextsRow, standIns := [], harness := (true, "11a94f6920779e5f5caf6709fd6aa6074721730d24603131ce9514f553faf583"), looks := true }, kinds := [], alts := [], laidByText := true, laidKinds := [.data, .data, .data], laidTests := true, laidLooks := .later }
def SourceTextsCardSaid : Prop := Claim7.holds Tryz.pinned (.plain (OpenSpec.ofChange sourceTextsSpec)) sourceTextsCard

/-- THE TIED CARD OF 'constraintlaw14.SourceNumbers'. -/
def sourceNumbersCard : Claim7 := { stood := { row := sourceNumbersRow, standIns := [], harness := (true, "11a94f6920779e5f5caf6709fd6aa6074721730d24603131ce9514f553faf583"), looks := true }, kinds := [], alts := [], laidByText := true, laidKinds := [.data, .data, .data], laidTests := true, laidLooks := .later }
def SourceNumbersCardSaid : Prop := Claim7.holds Tryz.pinned (.plain (OpenSpec.ofChange sourceNumbersSpec)) sourceNumbersCard

/-- THE TIED CARD OF 'constraintlaw14.SourceGoals'. -/
def sourceGoalsCard : Claim7 := { stood := { row := sourceGoalsRow, standIns := [], harness := (true, "11a94f6920779e5f5caf6709fd6aa6074721730d24603131ce9514f553faf583"), looks := true }, kinds := [], alts := [], laidByText := true, laidKinds := [.data, .data, .data, .data], laidTests := true, laidLooks := .later }
def SourceGoalsCardSaid : Prop := Claim7.holds Tryz.pinned (.plain (OpenSpec.ofChange sourceGoalsSpec)) sourceGoalsCard

/-- THE TIED CARD OF 'constraintlaw14.SourceReturns'. -/
def sourceReturnsCard : Claim7 := { stood := { row := sourceReturnsRow, standIns := [], harness := (true, "11a94f6920779e5f5caf6709fd6aa6074721730d24603131ce9514f553faf583"), looks := true }, kinds := [], alts := [], laidByText := true, laidKinds := [.data, .data, .data, .data], laidTests := true, laidLooks := .later }
def SourceReturnsCardSaid : Prop := Claim7.holds Tryz.pinned (.plain (OpenSpec.ofChange sourceReturnsSpec)) sourceReturnsCard

/-- THE SECOND FORM's CARD OF 'constraintlaw14.SourceRules'. -/
def sourceRulesUptoCard : Claim7 := { stood := { row := sourceRulesUptoRow, standIns := [], harness := (true, "11a94f6920779e5f5caf6709fd6aa6074721730d24603131ce9514f553faf583"), looks := true }, kinds := [], alts := [], laidByText := true, laidKinds := [.data, .data, .data], laidTests := true, laidLooks := .later }
def SourceRulesUptoCardSaid : Prop := Claim7.holds Tryz.pinned (.plain (OpenSpec.upto sourceRulesSpec)) sourceRulesUptoCard

/-- THE SECOND FORM's CARD OF 'constraintlaw14.SourceTexts'. -/
def sourceTextsUptoCard : Claim7 := { stood := { row := sourceTextsUptoRow, standIns := [], harness := (true, "11a94f6920779e5f5caf6709fd6aa6074721730d24603131ce9514f553faf583"), looks := true }, kinds := [], alts := [], laidByText := true, laidKinds := [.data, .data, .data], laidTests := true, laidLooks := .later }
def SourceTextsUptoCardSaid : Prop := Claim7.holds Tryz.pinned (.plain (OpenSpec.upto sourceTextsSpec)) sourceTextsUptoCard

/-- THE SECOND FORM's CARD OF 'constraintlaw14.SourceNumbers'. -/
def sourceNumbersUptoCard : Claim7 := { stood := { row := sourceNumbersUptoRow, standIns := [], harness := (true, "11a94f6920779e5f5caf6709fd6aa6074721730d24603131ce9514f553faf583"), looks := true }, kinds := [], alts := [], laidByText := true, laidKinds := [.data, .data, .data], laidTests := true, laidLooks := .later }
def SourceNumbersUptoCardSaid : Prop := Claim7.holds Tryz.pinned (.plain (OpenSpec.upto sourceNumbersSpec)) sourceNumbersUptoCard

/-- THE SECOND FORM's CARD OF 'constraintlaw14.SourceGoals'. -/
def sourceGoalsUptoCard : Claim7 := { stood := { row := sourceGoalsUptoRow, standIns := [], harness := (true, "11a94f6920779e5f5caf6709fd6aa6074721730d24603131ce9514f553faf583"), looks := true }, kinds := [], alts := [], laidByText := true, laidKinds := [.data, .data, .data, .data], laidTests := true, laidLooks := .later }
def SourceGoalsUptoCardSaid : Prop := Claim7.holds Tryz.pinned (.plain (OpenSpec.upto sourceGoalsSpec)) sourceGoalsUptoCard

/-- THE SECOND FORM's CARD OF 'constraintlaw14.SourceReturns'. -/
def sourceReturnsUptoCard : Claim7 := { stood := { row := sourceReturnsUptoRow, standIns := [], harness := (true, "11a94f6920779e5f5caf6709fd6aa6074721730d24603131ce9514f553faf583"), looks := true }, kinds := [], alts := [], laidByText := true, laidKinds := [.data, .data, .data, .data], laidTests := true, laidLooks := .later }
def SourceReturnsUptoCardSaid : Prop := Claim7.holds Tryz.pinned (.plain (OpenSpec.upto sourceReturnsSpec)) sourceReturnsUptoCard
end Rows
end Go.Proofs.YtenheconhibonaaGreatDoor
