/-
  NARROWER THAN 'FOR EVERY INPUT', by the rows' own cells (each row's printed sentence says how): SyntaxValid: laid · SyntaxSpaces: laid · SyntaxAppends: laid.
  DERIVED. THE GIVEN ROWS OF THIS SEAT. 3 by the template 'for every input the law returns true; each argument reads behind the call as it read before'; 0 by the template 'total and deterministic' (their statements: YticgcpebdldbgaaDoorTotals.lean).
  GIVEN WITH THE SEED: the statements are not yours to turn. If you find one false, say at which input.
  Laid BY PROGRAM, IN A SANDBOX (cutbox-rows.mjs): the forced cells as the released guide's own fill.sh prints them over the translation 66a2098d5f66e802… (all of the seat's roots in one cut). By AI agents, Wed Nov 11 2026. No macro, syntax, notation, axiom, sorry.
-/
import Derived.Test.YticgcpebdldbgaaDoorChecked
import GoSem.Claim
import GoSem.ClaimJoined
import GoSem.ClaimMapViews
import Derived.JoinedTies
import Derived.KernelRfl
namespace Go.Proofs.YticgcpebdldbgaaDoor
/- THE CELL 'sum', in the pinned program and in every row, IS THE sha256 OF THE DUMP (.gsa) THAT YticgcpebdldbgaaDoorProg.lean LOADS. Nothing in Lean hashes anything: it is a label: what it is worth is what the hold of that sum in a sandbox is worth. -/
noncomputable def Tryd.pinned : Pinned := { name := "yticgcpebdldbgaadoor", sum := "66a2098d5f66e802f8ecf656566c76b7099270983cd71ee32d42abea8dcbed98", checked := Tryd.checked }
namespace Rows
def none {H : Type} : Left H := { results := [], args := [] }

/- WHAT THE LISTED PACKAGE-LEVEL VARIABLES READ AS WHEN THE CALL BEGINS. Each datum BY PROGRAM (the guide's laid-datum.mjs) off the statement by which the dump's own 'gosem.cut.vars' lays the variable. In a bare row this is a premise. The card (YticgcpebdldbgaaDoorCards.lean) ties it to the program's text. -/
def laid_constraint_token_symbols {H : Type} : DataW H := .agg [.lit (.string [61, 58, 61]), .lit (.string [61, 92, 61]), .lit (.string [60, 61, 62]), .lit (.string [61, 61, 62]), .lit (.string [61, 61]), .lit (.string [92, 61]), .lit (.string [61, 60]), .lit (.string [62, 61]), .lit (.string [64]), .lit (.string [44]), .lit (.string [46]), .lit (.string [40]), .lit (.string [41]), .lit (.string [124]), .lit (.string [47]), .lit (.string [92]), .lit (.string [43]), .lit (.string [45]), .lit (.string [42]), .lit (.string [37]), .lit (.string [61]), .lit (.string [60]), .lit (.string [62])]

/-- 'constraintlaw13.SyntaxValid': WHATEVER THE INPUT: true; the input reads as it did. -/
def syntaxValidSpec : ChangeSpec := { name := "syntaxValid", fn := fun _ => fun
  | [d] => { results := [.lit (.bool true)], args := [d] }
  | _ => none }
def syntaxValidRow : OpenClaim := { program := "yticgcpebdldbgaadoor", sum := "66a2098d5f66e802f8ecf656566c76b7099270983cd71ee32d42abea8dcbed98", func := "constraint/constraintlaw13.SyntaxValid", spec := "syntaxValid", inPlace := ["internal/bytealg.IndexByteString", "internal/bytealg.IndexString"], unfollowed := true, recurses := true, named := ["internal/bytealg.MaxLen", "constraint/token.symbols"], apart := false, laid := [("constraint/token.symbols", laid_constraint_token_symbols)] }
def SyntaxValidSaid : Prop := syntaxValidRow.holds Tryd.pinned (OpenSpec.ofChange syntaxValidSpec)

/-- ITS FALSE NEIGHBOUR: 'it returns false'. Refute it at one input. -/
def syntaxValidWrong : ChangeSpec := { name := "syntaxValid", fn := fun _ => fun
  | [d] => { results := [.lit (.bool false)], args := [d] }
  | _ => none }
def SyntaxValidWrongFalsely : Prop := syntaxValidRow.holds Tryd.pinned (OpenSpec.ofChange syntaxValidWrong)

/-- 'constraintlaw13.SyntaxSpaces': WHATEVER THE INPUT: true; the input reads as it did. -/
def syntaxSpacesSpec : ChangeSpec := { name := "syntaxSpaces", fn := fun _ => fun
  | [d1, d2] => { results := [.lit (.bool true)], args := [d1, d2] }
  | _ => none }
def syntaxSpacesRow : OpenClaim := { program := "yticgcpebdldbgaadoor", sum := "66a2098d5f66e802f8ecf656566c76b7099270983cd71ee32d42abea8dcbed98", func := "constraint/constraintlaw13.SyntaxSpaces", spec := "syntaxSpaces", inPlace := ["internal/bytealg.IndexByteString", "internal/bytealg.IndexString"], unfollowed := true, recurses := true, named := ["internal/bytealg.MaxLen", "constraint/token.symbols"], apart := false, laid := [("constraint/token.symbols", laid_constraint_token_symbols)] }
def SyntaxSpacesSaid : Prop := syntaxSpacesRow.holds Tryd.pinned (OpenSpec.ofChange syntaxSpacesSpec)

/-- ITS FALSE NEIGHBOUR: 'it returns false'. Refute it at one input. -/
def syntaxSpacesWrong : ChangeSpec := { name := "syntaxSpaces", fn := fun _ => fun
  | [d1, d2] => { results := [.lit (.bool false)], args := [d1, d2] }
  | _ => none }
def SyntaxSpacesWrongFalsely : Prop := syntaxSpacesRow.holds Tryd.pinned (OpenSpec.ofChange syntaxSpacesWrong)

/-- 'constraintlaw13.SyntaxAppends': WHATEVER THE INPUT: true; the input reads as it did. -/
def syntaxAppendsSpec : ChangeSpec := { name := "syntaxAppends", fn := fun _ => fun
  | [d1, d2] => { results := [.lit (.bool true)], args := [d1, d2] }
  | _ => none }
def syntaxAppendsRow : OpenClaim := { program := "yticgcpebdldbgaadoor", sum := "66a2098d5f66e802f8ecf656566c76b7099270983cd71ee32d42abea8dcbed98", func := "constraint/constraintlaw13.SyntaxAppends", spec := "syntaxAppends", inPlace := ["internal/bytealg.IndexByteString", "internal/bytealg.IndexString"], unfollowed := true, recurses := true, named := ["internal/bytealg.MaxLen", "constraint/token.symbols"], apart := false, laid := [("constraint/token.symbols", laid_constraint_token_symbols)] }
def SyntaxAppendsSaid : Prop := syntaxAppendsRow.holds Tryd.pinned (OpenSpec.ofChange syntaxAppendsSpec)

/-- ITS FALSE NEIGHBOUR: 'it returns false'. Refute it at one input. -/
def syntaxAppendsWrong : ChangeSpec := { name := "syntaxAppends", fn := fun _ => fun
  | [d1, d2] => { results := [.lit (.bool false)], args := [d1, d2] }
  | _ => none }
def SyntaxAppendsWrongFalsely : Prop := syntaxAppendsRow.holds Tryd.pinned (OpenSpec.ofChange syntaxAppendsWrong)

/- THE SECOND FORM. 'bulk': how many values and letters a reading holds, each counted each time it is reached (what is shared counts as often as it is met; a slice's spare places count too). A statement '..UptoSaid' is the law's where the arguments, and the package variables that the reading takes, are together of bulk at most 1048576: NARROWER than '..Said'. Prove '..Said' where nothing that the law and all that it calls make is longer than what came in: it says more and counts as full. Else prove '..UptoSaid'. A law counts once. -/
mutual
def uptoBulk {H : Type} : DataW H → Nat
  | .lit (.string bytes) => bytes.length + 1
  | .lit _ => 1
  | .nil => 1
  | .ptr d => uptoBulk d + 1
  | .slice elems spare => uptoBulkAll elems + uptoBulkAll spare + 1
  | .agg parts => uptoBulkAll parts + 1
  | .iface _ d => uptoBulk d + 1
  | .map entries => uptoBulkEntries entries + 1
  | .held _ => 1
def uptoBulkAll {H : Type} : List (DataW H) → Nat
  | [] => 0
  | d :: r => uptoBulk d + uptoBulkAll r
def uptoBulkEntries {H : Type} : List (Lit × DataW H) → Nat
  | [] => 0
  | x :: r => uptoBulkEntry x + uptoBulkEntries r
def uptoBulkEntry {H : Type} : Lit × DataW H → Nat
  | (.string bytes, d) => bytes.length + uptoBulk d + 1
  | (_, d) => uptoBulk d + 1
 end
def uptoSmall : (H : Type) → List (DataW H) → Bool := fun _ ds => decide (uptoBulkAll ds ≤ 1048576)
def OpenSpec.upto (s : _root_.Go.ChangeSpec) : _root_.Go.OpenSpec := { _root_.Go.OpenSpec.ofChange s with cond := some uptoSmall }

/-- 'constraintlaw13.SyntaxValid', WHERE WHAT IT READS IS OF BULK AT MOST 1048576: true; the input reads as it did. -/
def syntaxValidUptoRow : OpenClaim := { program := "yticgcpebdldbgaadoor", sum := "66a2098d5f66e802f8ecf656566c76b7099270983cd71ee32d42abea8dcbed98", func := "constraint/constraintlaw13.SyntaxValid", spec := "syntaxValid", inPlace := ["internal/bytealg.IndexByteString", "internal/bytealg.IndexString"], unfollowed := true, recurses := true, named := ["internal/bytealg.MaxLen", "constraint/token.symbols"], apart := false, laid := [("constraint/token.symbols", laid_constraint_token_symbols)], narrowed := true }
def SyntaxValidUptoSaid : Prop := syntaxValidUptoRow.holds Tryd.pinned (OpenSpec.upto syntaxValidSpec)

/-- 'constraintlaw13.SyntaxSpaces', WHERE WHAT IT READS IS OF BULK AT MOST 1048576: true; the input reads as it did. -/
def syntaxSpacesUptoRow : OpenClaim := { program := "yticgcpebdldbgaadoor", sum := "66a2098d5f66e802f8ecf656566c76b7099270983cd71ee32d42abea8dcbed98", func := "constraint/constraintlaw13.SyntaxSpaces", spec := "syntaxSpaces", inPlace := ["internal/bytealg.IndexByteString", "internal/bytealg.IndexString"], unfollowed := true, recurses := true, named := ["internal/bytealg.MaxLen", "constraint/token.symbols"], apart := false, laid := [("constraint/token.symbols", laid_constraint_token_symbols)], narrowed := true }
def SyntaxSpacesUptoSaid : Prop := syntaxSpacesUptoRow.holds Tryd.pinned (OpenSpec.upto syntaxSpacesSpec)

/-- 'constraintlaw13.SyntaxAppends', WHERE WHAT IT READS IS OF BULK AT MOST 1048576: true; the input reads as it did. -/
def syntaxAppendsUptoRow : OpenClaim := { program := "yticgcpebdldbgaadoor", sum := "66a2098d5f66e802f8ecf656566c76b7099270983cd71ee32d42abea8dcbed98", func := "constraint/constraintlaw13.SyntaxAppends", spec := "syntaxAppends", inPlace := ["internal/bytealg.IndexByteString", "internal/bytealg.IndexString"], unfollowed := true, recurses := true, named := ["internal/bytealg.MaxLen", "constraint/token.symbols"], apart := false, laid := [("constraint/token.symbols", laid_constraint_token_symbols)], narrowed := true }
def SyntaxAppendsUptoSaid : Prop := syntaxAppendsUptoRow.holds Tryd.pinned (OpenSpec.upto syntaxAppendsSpec)

end Rows
end Go.Proofs.YticgcpebdldbgaaDoor
