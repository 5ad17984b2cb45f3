/-
  NARROWER THAN 'FOR EVERY INPUT', by the rows' own cells (each row's printed sentence says how): VariantShifts: loops · VariantNumbers: loops · VariantEquivalent: loops · VariantShifted: loops · VariantBack: loops · VariantRules: loops · VariantInverse: loops.
  DERIVED. THE GIVEN ROWS OF THIS SEAT. 7 by the template 'for every input the law returns true; each argument reads behind the call as it read before'; 0 by the template 'total and deterministic' (their statements: YtplnbmldkgcedaaTotals.lean).
  GIVEN WITH THE SEED: the statements are not yours to turn. If you find one false, say at which input.
  Laid BY PROGRAM, IN A SANDBOX (cutbox-rows.mjs): the forced cells as the released guide's own fill.sh prints them over the translation 2654c41823f8b593… (all of the seat's roots in one cut). By AI agents, Wed Nov 11 2026. No macro, syntax, notation, axiom, sorry.
-/
import Derived.Test.YtplnbmldkgcedaaChecked
import GoSem.Claim
import GoSem.ClaimJoined
import GoSem.ClaimMapViews
import Derived.JoinedTies
import Derived.KernelRfl
namespace Go.Proofs.Ytplnbmldkgcedaa
/- THE CELL 'sum', in the pinned program and in every row, IS THE sha256 OF THE DUMP (.gsa) THAT YtplnbmldkgcedaaProg.lean LOADS. Nothing in Lean hashes anything: it is a label: what it is worth is what the hold of that sum in a sandbox is worth. -/
noncomputable def Try.pinned : Pinned := { name := "ytplnbmldkgcedaa", sum := "2654c41823f8b593c437f585b7002fc145ba44d71701afa74d52f0de263e22f4", checked := Try.checked }
namespace Rows
def none {H : Type} : Left H := { results := [], args := [] }

/-- 'constraintlaw09.VariantShifts': WHATEVER THE INPUT: true; the input reads as it did. -/
def variantShiftsSpec : ChangeSpec := { name := "variantShifts", fn := fun _ => fun
  | [d1, d2] => { results := [.lit (.bool true)], args := [d1, d2] }
  | _ => none }
def variantShiftsRow : OpenClaim := { program := "ytplnbmldkgcedaa", sum := "2654c41823f8b593c437f585b7002fc145ba44d71701afa74d52f0de263e22f4", func := "constraint/constraintlaw09.VariantShifts", spec := "variantShifts", unfollowed := true, recurses := true, loops := true, apart := false }
def VariantShiftsSaid : Prop := variantShiftsRow.holds Try.pinned (OpenSpec.ofChange variantShiftsSpec)

/-- ITS FALSE NEIGHBOUR: 'it returns false'. Refute it at one input. -/
def variantShiftsWrong : ChangeSpec := { name := "variantShifts", fn := fun _ => fun
  | [d1, d2] => { results := [.lit (.bool false)], args := [d1, d2] }
  | _ => none }
def VariantShiftsWrongFalsely : Prop := variantShiftsRow.holds Try.pinned (OpenSpec.ofChange variantShiftsWrong)

/-- 'constraintlaw09.VariantNumbers': WHATEVER THE INPUT: true; the input reads as it did. -/
def variantNumbersSpec : ChangeSpec := { name := "variantNumbers", fn := fun _ => fun
  | [d] => { results := [.lit (.bool true)], args := [d] }
  | _ => none }
def variantNumbersRow : OpenClaim := { program := "ytplnbmldkgcedaa", sum := "2654c41823f8b593c437f585b7002fc145ba44d71701afa74d52f0de263e22f4", func := "constraint/constraintlaw09.VariantNumbers", spec := "variantNumbers", unfollowed := true, recurses := true, loops := true, apart := false }
def VariantNumbersSaid : Prop := variantNumbersRow.holds Try.pinned (OpenSpec.ofChange variantNumbersSpec)

/-- ITS FALSE NEIGHBOUR: 'it returns false'. Refute it at one input. -/
def variantNumbersWrong : ChangeSpec := { name := "variantNumbers", fn := fun _ => fun
  | [d] => { results := [.lit (.bool false)], args := [d] }
  | _ => none }
def VariantNumbersWrongFalsely : Prop := variantNumbersRow.holds Try.pinned (OpenSpec.ofChange variantNumbersWrong)

/-- 'constraintlaw09.VariantEquivalent': WHATEVER THE INPUT: true; the input reads as it did. -/
def variantEquivalentSpec : ChangeSpec := { name := "variantEquivalent", fn := fun _ => fun
  | [d1, d2, d3] => { results := [.lit (.bool true)], args := [d1, d2, d3] }
  | _ => none }
def variantEquivalentRow : OpenClaim := { program := "ytplnbmldkgcedaa", sum := "2654c41823f8b593c437f585b7002fc145ba44d71701afa74d52f0de263e22f4", func := "constraint/constraintlaw09.VariantEquivalent", spec := "variantEquivalent", unfollowed := true, recurses := true, loops := true, apart := false }
def VariantEquivalentSaid : Prop := variantEquivalentRow.holds Try.pinned (OpenSpec.ofChange variantEquivalentSpec)

/-- ITS FALSE NEIGHBOUR: 'it returns false'. Refute it at one input. -/
def variantEquivalentWrong : ChangeSpec := { name := "variantEquivalent", fn := fun _ => fun
  | [d1, d2, d3] => { results := [.lit (.bool false)], args := [d1, d2, d3] }
  | _ => none }
def VariantEquivalentWrongFalsely : Prop := variantEquivalentRow.holds Try.pinned (OpenSpec.ofChange variantEquivalentWrong)

/-- 'constraintlaw09.VariantShifted': WHATEVER THE INPUT: true; the input reads as it did. -/
def variantShiftedSpec : ChangeSpec := { name := "variantShifted", fn := fun _ => fun
  | [d1, d2] => { results := [.lit (.bool true)], args := [d1, d2] }
  | _ => none }
def variantShiftedRow : OpenClaim := { program := "ytplnbmldkgcedaa", sum := "2654c41823f8b593c437f585b7002fc145ba44d71701afa74d52f0de263e22f4", func := "constraint/constraintlaw09.VariantShifted", spec := "variantShifted", unfollowed := true, recurses := true, loops := true, apart := false }
def VariantShiftedSaid : Prop := variantShiftedRow.holds Try.pinned (OpenSpec.ofChange variantShiftedSpec)

/-- ITS FALSE NEIGHBOUR: 'it returns false'. Refute it at one input. -/
def variantShiftedWrong : ChangeSpec := { name := "variantShifted", fn := fun _ => fun
  | [d1, d2] => { results := [.lit (.bool false)], args := [d1, d2] }
  | _ => none }
def VariantShiftedWrongFalsely : Prop := variantShiftedRow.holds Try.pinned (OpenSpec.ofChange variantShiftedWrong)

/-- 'constraintlaw09.VariantBack': WHATEVER THE INPUT: true; the input reads as it did. -/
def variantBackSpec : ChangeSpec := { name := "variantBack", fn := fun _ => fun
  | [d1, d2] => { results := [.lit (.bool true)], args := [d1, d2] }
  | _ => none }
def variantBackRow : OpenClaim := { program := "ytplnbmldkgcedaa", sum := "2654c41823f8b593c437f585b7002fc145ba44d71701afa74d52f0de263e22f4", func := "constraint/constraintlaw09.VariantBack", spec := "variantBack", unfollowed := true, recurses := true, loops := true, apart := false }
def VariantBackSaid : Prop := variantBackRow.holds Try.pinned (OpenSpec.ofChange variantBackSpec)

/-- ITS FALSE NEIGHBOUR: 'it returns false'. Refute it at one input. -/
def variantBackWrong : ChangeSpec := { name := "variantBack", fn := fun _ => fun
  | [d1, d2] => { results := [.lit (.bool false)], args := [d1, d2] }
  | _ => none }
def VariantBackWrongFalsely : Prop := variantBackRow.holds Try.pinned (OpenSpec.ofChange variantBackWrong)

/-- 'constraintlaw09.VariantRules': WHATEVER THE INPUT: true; the input reads as it did. -/
def variantRulesSpec : ChangeSpec := { name := "variantRules", fn := fun _ => fun
  | [d1, d2] => { results := [.lit (.bool true)], args := [d1, d2] }
  | _ => none }
def variantRulesRow : OpenClaim := { program := "ytplnbmldkgcedaa", sum := "2654c41823f8b593c437f585b7002fc145ba44d71701afa74d52f0de263e22f4", func := "constraint/constraintlaw09.VariantRules", spec := "variantRules", unfollowed := true, recurses := true, loops := true, apart := false }
def VariantRulesSaid : Prop := variantRulesRow.holds Try.pinned (OpenSpec.ofChange variantRulesSpec)

/-- ITS FALSE NEIGHBOUR: 'it returns false'. Refute it at one input. -/
def variantRulesWrong : ChangeSpec := { name := "variantRules", fn := fun _ => fun
  | [d1, d2] => { results := [.lit (.bool false)], args := [d1, d2] }
  | _ => none }
def VariantRulesWrongFalsely : Prop := variantRulesRow.holds Try.pinned (OpenSpec.ofChange variantRulesWrong)

/-- 'constraintlaw09.VariantInverse': WHATEVER THE INPUT: true; the input reads as it did. -/
def variantInverseSpec : ChangeSpec := { name := "variantInverse", fn := fun _ => fun
  | [d] => { results := [.lit (.bool true)], args := [d] }
  | _ => none }
def variantInverseRow : OpenClaim := { program := "ytplnbmldkgcedaa", sum := "2654c41823f8b593c437f585b7002fc145ba44d71701afa74d52f0de263e22f4", func := "constraint/constraintlaw09.VariantInverse", spec := "variantInverse", unfollowed := true, recurses := true, loops := true, apart := false }
def VariantInverseSaid : Prop := variantInverseRow.holds Try.pinned (OpenSpec.ofChange variantInverseSpec)

/-- ITS FALSE NEIGHBOUR: 'it returns false'. Refute it at one input. -/
def variantInverseWrong : ChangeSpec := { name := "variantInverse", fn := fun _ => fun
  | [d] => { results := [.lit (.bool false)], args := [d] }
  | _ => none }
def VariantInverseWrongFalsely : Prop := variantInverseRow.holds Try.pinned (OpenSpec.ofChange variantInverseWrong)

/- THE SECOND FORM. 'bulk': how many values and letters a reading holds, each counted each time it is reached (what is shared counts as often as it is met; a slice's spare places count too). A statement '..UptoSaid' is the law's where the arguments, and the package variables that the reading takes, are together of bulk at most 1048576: NARROWER than '..Said'. Prove '..Said' where nothing that the law and all that it calls make is longer than what came in: it says more and counts as full. Else prove '..UptoSaid'. A law counts once. -/
mutual
def uptoBulk {H : Type} : DataW H → Nat
  | .lit (.string bytes) => bytes.length + 1
  | .lit _ => 1
  | .nil => 1
  | .ptr d => uptoBulk d + 1
  | .slice elems spare => uptoBulkAll elems + uptoBulkAll spare + 1
  | .agg parts => uptoBulkAll parts + 1
  | .iface _ d => uptoBulk d + 1
  | .map entries => uptoBulkEntries entries + 1
  | .held _ => 1
def uptoBulkAll {H : Type} : List (DataW H) → Nat
  | [] => 0
  | d :: r => uptoBulk d + uptoBulkAll r
def uptoBulkEntries {H : Type} : List (Lit × DataW H) → Nat
  | [] => 0
  | x :: r => uptoBulkEntry x + uptoBulkEntries r
def uptoBulkEntry {H : Type} : Lit × DataW H → Nat
  | (.string bytes, d) => bytes.length + uptoBulk d + 1
  | (_, d) => uptoBulk d + 1
 end
def uptoSmall : (H : Type) → List (DataW H) → Bool := fun _ ds => decide (uptoBulkAll ds ≤ 1048576)
def OpenSpec.upto (s : _root_.Go.ChangeSpec) : _root_.Go.OpenSpec := { _root_.Go.OpenSpec.ofChange s with cond := some uptoSmall }

/-- 'constraintlaw09.VariantShifts', WHERE WHAT IT READS IS OF BULK AT MOST 1048576: true; the input reads as it did. -/
def variantShiftsUptoRow : OpenClaim := { program := "ytplnbmldkgcedaa", sum := "2654c41823f8b593c437f585b7002fc145ba44d71701afa74d52f0de263e22f4", func := "constraint/constraintlaw09.VariantShifts", spec := "variantShifts", unfollowed := true, recurses := true, loops := true, apart := false, narrowed := true }
def VariantShiftsUptoSaid : Prop := variantShiftsUptoRow.holds Try.pinned (OpenSpec.upto variantShiftsSpec)

/-- 'constraintlaw09.VariantNumbers', WHERE WHAT IT READS IS OF BULK AT MOST 1048576: true; the input reads as it did. -/
def variantNumbersUptoRow : OpenClaim := { program := "ytplnbmldkgcedaa", sum := "2654c41823f8b593c437f585b7002fc145ba44d71701afa74d52f0de263e22f4", func := "constraint/constraintlaw09.VariantNumbers", spec := "variantNumbers", unfollowed := true, recurses := true, loops := true, apart := false, narrowed := true }
def VariantNumbersUptoSaid : Prop := variantNumbersUptoRow.holds Try.pinned (OpenSpec.upto variantNumbersSpec)

/-- 'constraintlaw09.VariantEquivalent', WHERE WHAT IT READS IS OF BULK AT MOST 1048576: true; the input reads as it did. -/
def variantEquivalentUptoRow : OpenClaim := { program := "ytplnbmldkgcedaa", sum := "2654c41823f8b593c437f585b7002fc145ba44d71701afa74d52f0de263e22f4", func := "constraint/constraintlaw09.VariantEquivalent", spec := "variantEquivalent", unfollowed := true, recurses := true, loops := true, apart := false, narrowed := true }
def VariantEquivalentUptoSaid : Prop := variantEquivalentUptoRow.holds Try.pinned (OpenSpec.upto variantEquivalentSpec)

/-- 'constraintlaw09.VariantShifted', WHERE WHAT IT READS IS OF BULK AT MOST 1048576: true; the input reads as it did. -/
def variantShiftedUptoRow : OpenClaim := { program := "ytplnbmldkgcedaa", sum := "2654c41823f8b593c437f585b7002fc145ba44d71701afa74d52f0de263e22f4", func := "constraint/constraintlaw09.VariantShifted", spec := "variantShifted", unfollowed := true, recurses := true, loops := true, apart := false, narrowed := true }
def VariantShiftedUptoSaid : Prop := variantShiftedUptoRow.holds Try.pinned (OpenSpec.upto variantShiftedSpec)

/-- 'constraintlaw09.VariantBack', WHERE WHAT IT READS IS OF BULK AT MOST 1048576: true; the input reads as it did. -/
def variantBackUptoRow : OpenClaim := { program := "ytplnbmldkgcedaa", sum := "2654c41823f8b593c437f585b7002fc145ba44d71701afa74d52f0de263e22f4", func := "constraint/constraintlaw09.VariantBack", spec := "variantBack", unfollowed := true, recurses := true, loops := true, apart := false, narrowed := true }
def VariantBackUptoSaid : Prop := variantBackUptoRow.holds Try.pinned (OpenSpec.upto variantBackSpec)

/-- 'constraintlaw09.VariantRules', WHERE WHAT IT READS IS OF BULK AT MOST 1048576: true; the input reads as it did. -/
def variantRulesUptoRow : OpenClaim := { program := "ytplnbmldkgcedaa", sum := "2654c41823f8b593c437f585b7002fc145ba44d71701afa74d52f0de263e22f4", func := "constraint/constraintlaw09.VariantRules", spec := "variantRules", unfollowed := true, recurses := true, loops := true, apart := false, narrowed := true }
def VariantRulesUptoSaid : Prop := variantRulesUptoRow.holds Try.pinned (OpenSpec.upto variantRulesSpec)

/-- 'constraintlaw09.VariantInverse', WHERE WHAT IT READS IS OF BULK AT MOST 1048576: true; the input reads as it did. -/
def variantInverseUptoRow : OpenClaim := { program := "ytplnbmldkgcedaa", sum := "2654c41823f8b593c437f585b7002fc145ba44d71701afa74d52f0de263e22f4", func := "constraint/constraintlaw09.VariantInverse", spec := "variantInverse", unfollowed := true, recurses := true, loops := true, apart := false, narrowed := true }
def VariantInverseUptoSaid : Prop := variantInverseUptoRow.holds Try.pinned (OpenSpec.upto variantInverseSpec)

end Rows
end Go.Proofs.Ytplnbmldkgcedaa
