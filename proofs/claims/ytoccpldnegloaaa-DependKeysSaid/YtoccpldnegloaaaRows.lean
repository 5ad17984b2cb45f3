/-
  NARROWER THAN 'FOR EVERY INPUT', by the rows' own cells (each row's printed sentence says how): DependKeys: loops · DependHolds: loops.
  DERIVED. THE GIVEN ROWS OF THIS SEAT. 3 by the template 'for every input the law returns true; each argument reads behind the call as it read before'; 0 by the template 'total and deterministic' (their statements: YtoccpldnegloaaaTotals.lean).
  GIVEN WITH THE SEED: the statements are not yours to turn. If you find one false, say at which input.
  Laid BY PROGRAM, IN A SANDBOX (cutbox-rows.mjs): the forced cells as the released guide's own fill.sh prints them over the translation c17ddf6d523ef8bb… (all of the seat's roots in one cut). By AI agents, Wed Nov 11 2026. No macro, syntax, notation, axiom, sorry.
-/
import Derived.Test.YtoccpldnegloaaaChecked
import GoSem.Claim
import GoSem.ClaimJoined
import GoSem.ClaimMapViews
import Derived.JoinedTies
import Derived.KernelRfl
namespace Go.Proofs.Ytoccpldnegloaaa
/- THE CELL 'sum', in the pinned program and in every row, IS THE sha256 OF THE DUMP (.gsa) THAT YtoccpldnegloaaaProg.lean LOADS. Nothing in Lean hashes anything: it is a label: what it is worth is what the hold of that sum in a sandbox is worth. -/
noncomputable def Try.pinned : Pinned := { name := "ytoccpldnegloaaa", sum := "c17ddf6d523ef8bbf07a4217dc753036b7c029ea9dfb0c4cb4bf85489957a9ec", checked := Try.checked }
namespace Rows
def none {H : Type} : Left H := { results := [], args := [] }

/-- 'constraintlaw28.DependKeys': WHATEVER THE INPUT: true; the input reads as it did. -/
def dependKeysSpec : ChangeSpec := { name := "dependKeys", fn := fun _ => fun
  | [d] => { results := [.lit (.bool true)], args := [d] }
  | _ => none }
def dependKeysRow : OpenClaim := { program := "ytoccpldnegloaaa", sum := "c17ddf6d523ef8bbf07a4217dc753036b7c029ea9dfb0c4cb4bf85489957a9ec", func := "constraint/constraintlaw28.DependKeys", spec := "dependKeys", unfollowed := true, recurses := true, loops := true, apart := false }
def DependKeysSaid : Prop := dependKeysRow.holds Try.pinned (OpenSpec.ofChange dependKeysSpec)

/-- ITS FALSE NEIGHBOUR: 'it returns false'. Refute it at one input. -/
def dependKeysWrong : ChangeSpec := { name := "dependKeys", fn := fun _ => fun
  | [d] => { results := [.lit (.bool false)], args := [d] }
  | _ => none }
def DependKeysWrongFalsely : Prop := dependKeysRow.holds Try.pinned (OpenSpec.ofChange dependKeysWrong)

/-- 'constraintlaw28.DependUnique': WHATEVER THE INPUT: true; the input reads as it did. -/
def dependUniqueSpec : ChangeSpec := { name := "dependUnique", fn := fun _ => fun
  | [d1, d2, d3] => { results := [.lit (.bool true)], args := [d1, d2, d3] }
  | _ => none }
def dependUniqueRow : OpenClaim := { program := "ytoccpldnegloaaa", sum := "c17ddf6d523ef8bbf07a4217dc753036b7c029ea9dfb0c4cb4bf85489957a9ec", func := "constraint/constraintlaw28.DependUnique", spec := "dependUnique", unfollowed := true, recurses := true, apart := false }
def DependUniqueSaid : Prop := dependUniqueRow.holds Try.pinned (OpenSpec.ofChange dependUniqueSpec)

/-- ITS FALSE NEIGHBOUR: 'it returns false'. Refute it at one input. -/
def dependUniqueWrong : ChangeSpec := { name := "dependUnique", fn := fun _ => fun
  | [d1, d2, d3] => { results := [.lit (.bool false)], args := [d1, d2, d3] }
  | _ => none }
def DependUniqueWrongFalsely : Prop := dependUniqueRow.holds Try.pinned (OpenSpec.ofChange dependUniqueWrong)

/-- 'constraintlaw28.DependHolds': WHATEVER THE INPUT: true; the input reads as it did. -/
def dependHoldsSpec : ChangeSpec := { name := "dependHolds", fn := fun _ => fun
  | [d1, d2, d3] => { results := [.lit (.bool true)], args := [d1, d2, d3] }
  | _ => none }
def dependHoldsRow : OpenClaim := { program := "ytoccpldnegloaaa", sum := "c17ddf6d523ef8bbf07a4217dc753036b7c029ea9dfb0c4cb4bf85489957a9ec", func := "constraint/constraintlaw28.DependHolds", spec := "dependHolds", unfollowed := true, recurses := true, loops := true, apart := false }
def DependHoldsSaid : Prop := dependHoldsRow.holds Try.pinned (OpenSpec.ofChange dependHoldsSpec)

/-- ITS FALSE NEIGHBOUR: 'it returns false'. Refute it at one input. -/
def dependHoldsWrong : ChangeSpec := { name := "dependHolds", fn := fun _ => fun
  | [d1, d2, d3] => { results := [.lit (.bool false)], args := [d1, d2, d3] }
  | _ => none }
def DependHoldsWrongFalsely : Prop := dependHoldsRow.holds Try.pinned (OpenSpec.ofChange dependHoldsWrong)

/- THE SECOND FORM. 'bulk': how many values and letters a reading holds, each counted each time it is reached (what is shared counts as often as it is met; a slice's spare places count too). A statement '..UptoSaid' is the law's where the arguments, and the package variables that the reading takes, are together of bulk at most 1048576: NARROWER than '..Said'. Prove '..Said' where nothing that the law and all that it calls make is longer than what came in: it says more and counts as full. Else prove '..UptoSaid'. A law counts once. -/
mutual
def uptoBulk {H : Type} : DataW H → Nat
  | .lit (.string bytes) => bytes.length + 1
  | .lit _ => 1
  | .nil => 1
  | .ptr d => uptoBulk d + 1
  | .slice elems spare => uptoBulkAll elems + uptoBulkAll spare + 1
  | .agg parts => uptoBulkAll parts + 1
  | .iface _ d => uptoBulk d + 1
  | .map entries => uptoBulkEntries entries + 1
  | .held _ => 1
def uptoBulkAll {H : Type} : List (DataW H) → Nat
  | [] => 0
  | d :: r => uptoBulk d + uptoBulkAll r
def uptoBulkEntries {H : Type} : List (Lit × DataW H) → Nat
  | [] => 0
  | x :: r => uptoBulkEntry x + uptoBulkEntries r
def uptoBulkEntry {H : Type} : Lit × DataW H → Nat
  | (.string bytes, d) => bytes.length + uptoBulk d + 1
  | (_, d) => uptoBulk d + 1
 end
def uptoSmall : (H : Type) → List (DataW H) → Bool := fun _ ds => decide (uptoBulkAll ds ≤ 1048576)
def OpenSpec.upto (s : _root_.Go.ChangeSpec) : _root_.Go.OpenSpec := { _root_.Go.OpenSpec.ofChange s with cond := some uptoSmall }

/-- 'constraintlaw28.DependKeys', WHERE WHAT IT READS IS OF BULK AT MOST 1048576: true; the input reads as it did. -/
def dependKeysUptoRow : OpenClaim := { program := "ytoccpldnegloaaa", sum := "c17ddf6d523ef8bbf07a4217dc753036b7c029ea9dfb0c4cb4bf85489957a9ec", func := "constraint/constraintlaw28.DependKeys", spec := "dependKeys", unfollowed := true, recurses := true, loops := true, apart := false, narrowed := true }
def DependKeysUptoSaid : Prop := dependKeysUptoRow.holds Try.pinned (OpenSpec.upto dependKeysSpec)

/-- 'constraintlaw28.DependUnique', WHERE WHAT IT READS IS OF BULK AT MOST 1048576: true; the input reads as it did. -/
def dependUniqueUptoRow : OpenClaim := { program := "ytoccpldnegloaaa", sum := "c17ddf6d523ef8bbf07a4217dc753036b7c029ea9dfb0c4cb4bf85489957a9ec", func := "constraint/constraintlaw28.DependUnique", spec := "dependUnique", unfollowed := true, recurses := true, apart := false, narrowed := true }
def DependUniqueUptoSaid : Prop := dependUniqueUptoRow.holds Try.pinned (OpenSpec.upto dependUniqueSpec)

/-- 'constraintlaw28.DependHolds', WHERE WHAT IT READS IS OF BULK AT MOST 1048576: true; the input reads as it did. -/
def dependHoldsUptoRow : OpenClaim := { program := "ytoccpldnegloaaa", sum := "c17ddf6d523ef8bbf07a4217dc753036b7c029ea9dfb0c4cb4bf85489957a9ec", func := "constraint/constraintlaw28.DependHolds", spec := "dependHolds", unfollowed := true, recurses := true, loops := true, apart := false, narrowed := true }
def DependHoldsUptoSaid : Prop := dependHoldsUptoRow.holds Try.pinned (OpenSpec.upto dependHoldsSpec)

end Rows
end Go.Proofs.Ytoccpldnegloaaa
