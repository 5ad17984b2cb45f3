/-
  NARROWER THAN 'FOR EVERY INPUT', by the rows' own cells (each row's printed sentence says how): SyntaxPrograms: laid · SyntaxGoals: laid · SyntaxRules: laid.
  DERIVED. THE GIVEN ROWS OF THIS SEAT. 3 by the template 'for every input the law returns true; each argument reads behind the call as it read before'; 0 by the template 'total and deterministic' (their statements: YticgcpebdldbgaaGreatDoorTotals.lean).
  GIVEN WITH THE SEED: the statements are not yours to turn. If you find one false, say at which input.
  Laid BY PROGRAM, IN A SANDBOX (cutbox-rows.mjs): the forced cells as the released guide's own fill.sh prints them over the translation 1e0974ad1aef346d… (all of the seat's roots in one cut). By AI agents, Wed Nov 11 2026. No macro, syntax, notation, axiom, sorry.
-/
import Derived.Test.YticgcpebdldbgaaGreatDoorChecked
import GoSem.Claim
import GoSem.ClaimJoined
import GoSem.ClaimMapViews
import Derived.JoinedTies
import Derived.KernelRfl
namespace Go.Proofs.YticgcpebdldbgaaGreatDoor
/- THE CELL 'sum', in the pinned program and in every row, IS THE sha256 OF THE DUMP (.gsa) THAT YticgcpebdldbgaaGreatDoorProg.lean LOADS. Nothing in Lean hashes anything: it is a label: what it is worth is what the hold of that sum in a sandbox is worth. -/
noncomputable def Tryz.pinned : Pinned := { name := "yticgcpebdldbgaagreatdoor", sum := "1e0974ad1aef346d02a9d20955506f4b85e8a0d689f504ecf7a45a8fcd57e6d1", checked := Tryz.checked }
namespace Rows
def none {H : Type} : Left H := { results := [], args := [] }

/- WHAT THE LISTED PACKAGE-LEVEL VARIABLES READ AS WHEN THE CALL BEGINS. Each datum BY PROGRAM (the guide's laid-datum.mjs) off the statement by which the dump's own 'gosem.cut.vars' lays the variable. In a bare row this is a premise. The card (YticgcpebdldbgaaGreatDoorCards.lean) ties it to the program's text. -/
def laid_constraint_token_symbols {H : Type} : DataW H := .agg [.lit (.string [61, 58, 61]), .lit (.string [61, 92, 61]), .lit (.string [60, 61, 62]), .lit (.string [61, 61, 62]), .lit (.string [61, 61]), .lit (.string [92, 61]), .lit (.string [61, 60]), .lit (.string [62, 61]), .lit (.string [64]), .lit (.string [44]), .lit (.string [46]), .lit (.string [40]), .lit (.string [41]), .lit (.string [124]), .lit (.string [47]), .lit (.string [92]), .lit (.string [43]), .lit (.string [45]), .lit (.string [42]), .lit (.string [37]), .lit (.string [61]), .lit (.string [60]), .lit (.string [62])]

/-- 'constraintlaw13.SyntaxPrograms': WHATEVER THE INPUT: true; the input reads as it did. -/
def syntaxProgramsSpec : ChangeSpec := { name := "syntaxPrograms", fn := fun _ => fun
  | [d] => { results := [.lit (.bool true)], args := [d] }
  | _ => none }
def syntaxProgramsRow : OpenClaim := { program := "yticgcpebdldbgaagreatdoor", sum := "1e0974ad1aef346d02a9d20955506f4b85e8a0d689f504ecf7a45a8fcd57e6d1", func := "constraint/constraintlaw13.SyntaxPrograms", spec := "syntaxPrograms", inPlace := ["internal/bytealg.IndexByteString", "internal/bytealg.IndexString"], unfollowed := true, recurses := true, named := ["internal/bytealg.MaxLen", "constraint/token.symbols"], apart := false, laid := [("constraint/token.symbols", laid_constraint_token_symbols)] }
def SyntaxProgramsSaid : Prop := syntaxProgramsRow.holds Tryz.pinned (OpenSpec.ofChange syntaxProgramsSpec)

/-- ITS FALSE NEIGHBOUR: 'it returns false'. Refute it at one input. -/
def syntaxProgramsWrong : ChangeSpec := { name := "syntaxPrograms", fn := fun _ => fun
  | [d] => { results := [.lit (.bool false)], args := [d] }
  | _ => none }
def SyntaxProgramsWrongFalsely : Prop := syntaxProgramsRow.holds Tryz.pinned (OpenSpec.ofChange syntaxProgramsWrong)

/-- 'constraintlaw13.SyntaxGoals': WHATEVER THE INPUT: true; the input reads as it did. -/
def syntaxGoalsSpec : ChangeSpec := { name := "syntaxGoals", fn := fun _ => fun
  | [d] => { results := [.lit (.bool true)], args := [d] }
  | _ => none }
def syntaxGoalsRow : OpenClaim := { program := "yticgcpebdldbgaagreatdoor", sum := "1e0974ad1aef346d02a9d20955506f4b85e8a0d689f504ecf7a45a8fcd57e6d1", func := "constraint/constraintlaw13.SyntaxGoals", spec := "syntaxGoals", inPlace := ["internal/bytealg.IndexByteString", "internal/bytealg.IndexString"], unfollowed := true, recurses := true, named := ["internal/bytealg.MaxLen", "constraint/token.symbols"], apart := false, laid := [("constraint/token.symbols", laid_constraint_token_symbols)] }
def SyntaxGoalsSaid : Prop := syntaxGoalsRow.holds Tryz.pinned (OpenSpec.ofChange syntaxGoalsSpec)

/-- ITS FALSE NEIGHBOUR: 'it returns false'. Refute it at one input. -/
def syntaxGoalsWrong : ChangeSpec := { name := "syntaxGoals", fn := fun _ => fun
  | [d] => { results := [.lit (.bool false)], args := [d] }
  | _ => none }
def SyntaxGoalsWrongFalsely : Prop := syntaxGoalsRow.holds Tryz.pinned (OpenSpec.ofChange syntaxGoalsWrong)

/-- 'constraintlaw13.SyntaxRules': WHATEVER THE INPUT: true; the input reads as it did. -/
def syntaxRulesSpec : ChangeSpec := { name := "syntaxRules", fn := fun _ => fun
  | [d] => { results := [.lit (.bool true)], args := [d] }
  | _ => none }
def syntaxRulesRow : OpenClaim := { program := "yticgcpebdldbgaagreatdoor", sum := "1e0974ad1aef346d02a9d20955506f4b85e8a0d689f504ecf7a45a8fcd57e6d1", func := "constraint/constraintlaw13.SyntaxRules", spec := "syntaxRules", inPlace := ["internal/bytealg.IndexByteString", "internal/bytealg.IndexString"], unfollowed := true, recurses := true, named := ["internal/bytealg.MaxLen", "constraint/token.symbols"], apart := false, laid := [("constraint/token.symbols", laid_constraint_token_symbols)] }
def SyntaxRulesSaid : Prop := syntaxRulesRow.holds Tryz.pinned (OpenSpec.ofChange syntaxRulesSpec)

/-- ITS FALSE NEIGHBOUR: 'it returns false'. Refute it at one input. -/
def syntaxRulesWrong : ChangeSpec := { name := "syntaxRules", fn := fun _ => fun
  | [d] => { results := [.lit (.bool false)], args := [d] }
  | _ => none }
def SyntaxRulesWrongFalsely : Prop := syntaxRulesRow.holds Tryz.pinned (OpenSpec.ofChange syntaxRulesWrong)

/- THE SECOND FORM. 'bulk': how many values and letters a reading holds, each counted each time it is reached (what is shared counts as often as it is met; a slice's spare places count too). A statement '..UptoSaid' is the law's where the arguments, and the package variables that the reading takes, are together of bulk at most 1048576: NARROWER than '..Said'. Prove '..Said' where nothing that the law and all that it calls make is longer than what came in: it says more and counts as full. Else prove '..UptoSaid'. A law counts once. -/
mutual
def uptoBulk {H : Type} : DataW H → Nat
  | .lit (.string bytes) => bytes.length + 1
  | .lit _ => 1
  | .nil => 1
  | .ptr d => uptoBulk d + 1
  | .slice elems spare => uptoBulkAll elems + uptoBulkAll spare + 1
  | .agg parts => uptoBulkAll parts + 1
  | .iface _ d => uptoBulk d + 1
  | .map entries => uptoBulkEntries entries + 1
  | .held _ => 1
def uptoBulkAll {H : Type} : List (DataW H) → Nat
  | [] => 0
  | d :: r => uptoBulk d + uptoBulkAll r
def uptoBulkEntries {H : Type} : List (Lit × DataW H) → Nat
  | [] => 0
  | x :: r => uptoBulkEntry x + uptoBulkEntries r
def uptoBulkEntry {H : Type} : Lit × DataW H → Nat
  | (.string bytes, d) => bytes.length + uptoBulk d + 1
  | (_, d) => uptoBulk d + 1
 end
def uptoSmall : (H : Type) → List (DataW H) → Bool := fun _ ds => decide (uptoBulkAll ds ≤ 1048576)
def OpenSpec.upto (s : _root_.Go.ChangeSpec) : _root_.Go.OpenSpec := { _root_.Go.OpenSpec.ofChange s with cond := some uptoSmall }

/-- 'constraintlaw13.SyntaxPrograms', WHERE WHAT IT READS IS OF BULK AT MOST 1048576: true; the input reads as it did. -/
def syntaxProgramsUptoRow : OpenClaim := { program := "yticgcpebdldbgaagreatdoor", sum := "1e0974ad1aef346d02a9d20955506f4b85e8a0d689f504ecf7a45a8fcd57e6d1", func := "constraint/constraintlaw13.SyntaxPrograms", spec := "syntaxPrograms", inPlace := ["internal/bytealg.IndexByteString", "internal/bytealg.IndexString"], unfollowed := true, recurses := true, named := ["internal/bytealg.MaxLen", "constraint/token.symbols"], apart := false, laid := [("constraint/token.symbols", laid_constraint_token_symbols)], narrowed := true }
def SyntaxProgramsUptoSaid : Prop := syntaxProgramsUptoRow.holds Tryz.pinned (OpenSpec.upto syntaxProgramsSpec)

/-- 'constraintlaw13.SyntaxGoals', WHERE WHAT IT READS IS OF BULK AT MOST 1048576: true; the input reads as it did. -/
def syntaxGoalsUptoRow : OpenClaim := { program := "yticgcpebdldbgaagreatdoor", sum := "1e0974ad1aef346d02a9d20955506f4b85e8a0d689f504ecf7a45a8fcd57e6d1", func := "constraint/constraintlaw13.SyntaxGoals", spec := "syntaxGoals", inPlace := ["internal/bytealg.IndexByteString", "internal/bytealg.IndexString"], unfollowed := true, recurses := true, named := ["internal/bytealg.MaxLen", "constraint/token.symbols"], apart := false, laid := [("constraint/token.symbols", laid_constraint_token_symbols)], narrowed := true }
def SyntaxGoalsUptoSaid : Prop := syntaxGoalsUptoRow.holds Tryz.pinned (OpenSpec.upto syntaxGoalsSpec)

/-- 'constraintlaw13.SyntaxRules', WHERE WHAT IT READS IS OF BULK AT MOST 1048576: true; the input reads as it did. -/
def syntaxRulesUptoRow : OpenClaim := { program := "yticgcpebdldbgaagreatdoor", sum := "1e0974ad1aef346d02a9d20955506f4b85e8a0d689f504ecf7a45a8fcd57e6d1", func := "constraint/constraintlaw13.SyntaxRules", spec := "syntaxRules", inPlace := ["internal/bytealg.IndexByteString", "internal/bytealg.IndexString"], unfollowed := true, recurses := true, named := ["internal/bytealg.MaxLen", "constraint/token.symbols"], apart := false, laid := [("constraint/token.symbols", laid_constraint_token_symbols)], narrowed := true }
def SyntaxRulesUptoSaid : Prop := syntaxRulesUptoRow.holds Tryz.pinned (OpenSpec.upto syntaxRulesSpec)

end Rows
end Go.Proofs.YticgcpebdldbgaaGreatDoor
