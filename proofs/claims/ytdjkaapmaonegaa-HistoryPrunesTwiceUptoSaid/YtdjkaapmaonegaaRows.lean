/-
  No cell of these rows narrows 'for every input' (looked for: loops, veiled, ifaces, maps, wideKeys, modest, calm, conditions, laid).
  DERIVED. THE GIVEN ROWS OF THIS SEAT. 7 by the template 'for every input the law returns true; each argument reads behind the call as it read before'; 0 by the template 'total and deterministic' (their statements: YtdjkaapmaonegaaTotals.lean).
  GIVEN WITH THE SEED: the statements are not yours to turn. If you find one false, say at which input.
  Laid BY PROGRAM, IN A SANDBOX (cutbox-rows.mjs): the forced cells as the released guide's own fill.sh prints them over the translation 892cd520d0d25954… (all of the seat's roots in one cut). By AI agents, Wed Nov 11 2026. No macro, syntax, notation, axiom, sorry.
-/
import Derived.Test.YtdjkaapmaonegaaChecked
import GoSem.Claim
import GoSem.ClaimJoined
import GoSem.ClaimMapViews
import Derived.JoinedTies
import Derived.KernelRfl
namespace Go.Proofs.Ytdjkaapmaonegaa
/- THE CELL 'sum', in the pinned program and in every row, IS THE sha256 OF THE DUMP (.gsa) THAT YtdjkaapmaonegaaProg.lean LOADS. Nothing in Lean hashes anything: it is a label: what it is worth is what the hold of that sum in a sandbox is worth. -/
noncomputable def Try.pinned : Pinned := { name := "ytdjkaapmaonegaa", sum := "892cd520d0d25954d828721211ecaee5f5de10fdccaf1895834f972868eb7367", checked := Try.checked }
namespace Rows
def none {H : Type} : Left H := { results := [], args := [] }

/-- 'constraintlaw21.HistoryRight': WHATEVER THE INPUT: true; the input reads as it did. -/
def historyRightSpec : ChangeSpec := { name := "historyRight", fn := fun _ => fun
  | [d] => { results := [.lit (.bool true)], args := [d] }
  | _ => none }
def historyRightRow : OpenClaim := { program := "ytdjkaapmaonegaa", sum := "892cd520d0d25954d828721211ecaee5f5de10fdccaf1895834f972868eb7367", func := "constraint/constraintlaw21.HistoryRight", spec := "historyRight", inPlace := ["slices.overlaps[constraint/api.Fire]"], unfollowed := true, recurses := true, apart := false }
def HistoryRightSaid : Prop := historyRightRow.holds Try.pinned (OpenSpec.ofChange historyRightSpec)

/-- ITS FALSE NEIGHBOUR: 'it returns false'. Refute it at one input. -/
def historyRightWrong : ChangeSpec := { name := "historyRight", fn := fun _ => fun
  | [d] => { results := [.lit (.bool false)], args := [d] }
  | _ => none }
def HistoryRightWrongFalsely : Prop := historyRightRow.holds Try.pinned (OpenSpec.ofChange historyRightWrong)

/-- 'constraintlaw21.HistoryOrder': WHATEVER THE INPUT: true; the input reads as it did. -/
def historyOrderSpec : ChangeSpec := { name := "historyOrder", fn := fun _ => fun
  | [d1, d2, d3] => { results := [.lit (.bool true)], args := [d1, d2, d3] }
  | _ => none }
def historyOrderRow : OpenClaim := { program := "ytdjkaapmaonegaa", sum := "892cd520d0d25954d828721211ecaee5f5de10fdccaf1895834f972868eb7367", func := "constraint/constraintlaw21.HistoryOrder", spec := "historyOrder", inPlace := ["slices.overlaps[constraint/api.Fire]"], unfollowed := true, recurses := true, apart := false }
def HistoryOrderSaid : Prop := historyOrderRow.holds Try.pinned (OpenSpec.ofChange historyOrderSpec)

/-- ITS FALSE NEIGHBOUR: 'it returns false'. Refute it at one input. -/
def historyOrderWrong : ChangeSpec := { name := "historyOrder", fn := fun _ => fun
  | [d1, d2, d3] => { results := [.lit (.bool false)], args := [d1, d2, d3] }
  | _ => none }
def HistoryOrderWrongFalsely : Prop := historyOrderRow.holds Try.pinned (OpenSpec.ofChange historyOrderWrong)

/-- 'constraintlaw21.HistoryAdds': WHATEVER THE INPUT: true; the input reads as it did. -/
def historyAddsSpec : ChangeSpec := { name := "historyAdds", fn := fun _ => fun
  | [d1, d2] => { results := [.lit (.bool true)], args := [d1, d2] }
  | _ => none }
def historyAddsRow : OpenClaim := { program := "ytdjkaapmaonegaa", sum := "892cd520d0d25954d828721211ecaee5f5de10fdccaf1895834f972868eb7367", func := "constraint/constraintlaw21.HistoryAdds", spec := "historyAdds", inPlace := ["slices.overlaps[constraint/api.Fire]"], unfollowed := true, recurses := true, apart := false }
def HistoryAddsSaid : Prop := historyAddsRow.holds Try.pinned (OpenSpec.ofChange historyAddsSpec)

/-- ITS FALSE NEIGHBOUR: 'it returns false'. Refute it at one input. -/
def historyAddsWrong : ChangeSpec := { name := "historyAdds", fn := fun _ => fun
  | [d1, d2] => { results := [.lit (.bool false)], args := [d1, d2] }
  | _ => none }
def HistoryAddsWrongFalsely : Prop := historyAddsRow.holds Try.pinned (OpenSpec.ofChange historyAddsWrong)

/-- 'constraintlaw21.HistoryAll': WHATEVER THE INPUT: true; the input reads as it did. -/
def historyAllSpec : ChangeSpec := { name := "historyAll", fn := fun _ => fun
  | [d1, d2] => { results := [.lit (.bool true)], args := [d1, d2] }
  | _ => none }
def historyAllRow : OpenClaim := { program := "ytdjkaapmaonegaa", sum := "892cd520d0d25954d828721211ecaee5f5de10fdccaf1895834f972868eb7367", func := "constraint/constraintlaw21.HistoryAll", spec := "historyAll", inPlace := ["slices.overlaps[constraint/api.Fire]"], unfollowed := true, recurses := true, apart := false }
def HistoryAllSaid : Prop := historyAllRow.holds Try.pinned (OpenSpec.ofChange historyAllSpec)

/-- ITS FALSE NEIGHBOUR: 'it returns false'. Refute it at one input. -/
def historyAllWrong : ChangeSpec := { name := "historyAll", fn := fun _ => fun
  | [d1, d2] => { results := [.lit (.bool false)], args := [d1, d2] }
  | _ => none }
def HistoryAllWrongFalsely : Prop := historyAllRow.holds Try.pinned (OpenSpec.ofChange historyAllWrong)

/-- 'constraintlaw21.HistorySets': WHATEVER THE INPUT: true; the input reads as it did. -/
def historySetsSpec : ChangeSpec := { name := "historySets", fn := fun _ => fun
  | [d1, d2, d3] => { results := [.lit (.bool true)], args := [d1, d2, d3] }
  | _ => none }
def historySetsRow : OpenClaim := { program := "ytdjkaapmaonegaa", sum := "892cd520d0d25954d828721211ecaee5f5de10fdccaf1895834f972868eb7367", func := "constraint/constraintlaw21.HistorySets", spec := "historySets", inPlace := ["slices.overlaps[constraint/api.Fire]"], unfollowed := true, recurses := true, apart := false }
def HistorySetsSaid : Prop := historySetsRow.holds Try.pinned (OpenSpec.ofChange historySetsSpec)

/-- ITS FALSE NEIGHBOUR: 'it returns false'. Refute it at one input. -/
def historySetsWrong : ChangeSpec := { name := "historySets", fn := fun _ => fun
  | [d1, d2, d3] => { results := [.lit (.bool false)], args := [d1, d2, d3] }
  | _ => none }
def HistorySetsWrongFalsely : Prop := historySetsRow.holds Try.pinned (OpenSpec.ofChange historySetsWrong)

/-- 'constraintlaw21.HistoryPrunes': WHATEVER THE INPUT: true; the input reads as it did. -/
def historyPrunesSpec : ChangeSpec := { name := "historyPrunes", fn := fun _ => fun
  | [d1, d2] => { results := [.lit (.bool true)], args := [d1, d2] }
  | _ => none }
def historyPrunesRow : OpenClaim := { program := "ytdjkaapmaonegaa", sum := "892cd520d0d25954d828721211ecaee5f5de10fdccaf1895834f972868eb7367", func := "constraint/constraintlaw21.HistoryPrunes", spec := "historyPrunes", inPlace := ["slices.overlaps[constraint/api.Fire]"], unfollowed := true, recurses := true, apart := false }
def HistoryPrunesSaid : Prop := historyPrunesRow.holds Try.pinned (OpenSpec.ofChange historyPrunesSpec)

/-- ITS FALSE NEIGHBOUR: 'it returns false'. Refute it at one input. -/
def historyPrunesWrong : ChangeSpec := { name := "historyPrunes", fn := fun _ => fun
  | [d1, d2] => { results := [.lit (.bool false)], args := [d1, d2] }
  | _ => none }
def HistoryPrunesWrongFalsely : Prop := historyPrunesRow.holds Try.pinned (OpenSpec.ofChange historyPrunesWrong)

/-- 'constraintlaw21.HistoryPrunesTwice': WHATEVER THE INPUT: true; the input reads as it did. -/
def historyPrunesTwiceSpec : ChangeSpec := { name := "historyPrunesTwice", fn := fun _ => fun
  | [d1, d2, d3] => { results := [.lit (.bool true)], args := [d1, d2, d3] }
  | _ => none }
def historyPrunesTwiceRow : OpenClaim := { program := "ytdjkaapmaonegaa", sum := "892cd520d0d25954d828721211ecaee5f5de10fdccaf1895834f972868eb7367", func := "constraint/constraintlaw21.HistoryPrunesTwice", spec := "historyPrunesTwice", inPlace := ["slices.overlaps[constraint/api.Fire]"], unfollowed := true, recurses := true, apart := false }
def HistoryPrunesTwiceSaid : Prop := historyPrunesTwiceRow.holds Try.pinned (OpenSpec.ofChange historyPrunesTwiceSpec)

/-- ITS FALSE NEIGHBOUR: 'it returns false'. Refute it at one input. -/
def historyPrunesTwiceWrong : ChangeSpec := { name := "historyPrunesTwice", fn := fun _ => fun
  | [d1, d2, d3] => { results := [.lit (.bool false)], args := [d1, d2, d3] }
  | _ => none }
def HistoryPrunesTwiceWrongFalsely : Prop := historyPrunesTwiceRow.holds Try.pinned (OpenSpec.ofChange historyPrunesTwiceWrong)

/- THE SECOND FORM. 'bulk': how many values and letters a reading holds, each counted each time it is reached (what is shared counts as often as it is met; a slice's spare places count too). A statement '..UptoSaid' is the law's where the arguments, and the package variables that the reading takes, are together of bulk at most 1048576: NARROWER than '..Said'. Prove '..Said' where nothing that the law and all that it calls make is longer than what came in: it says more and counts as full. Else prove '..UptoSaid'. A law counts once. -/
mutual
def uptoBulk {H : Type} : DataW H → Nat
  | .lit (.string bytes) => bytes.length + 1
  | .lit _ => 1
  | .nil => 1
  | .ptr d => uptoBulk d + 1
  | .slice elems spare => uptoBulkAll elems + uptoBulkAll spare + 1
  | .agg parts => uptoBulkAll parts + 1
  | .iface _ d => uptoBulk d + 1
  | .map entries => uptoBulkEntries entries + 1
  | .held _ => 1
def uptoBulkAll {H : Type} : List (DataW H) → Nat
  | [] => 0
  | d :: r => uptoBulk d + uptoBulkAll r
def uptoBulkEntries {H : Type} : List (Lit × DataW H) → Nat
  | [] => 0
  | x :: r => uptoBulkEntry x + uptoBulkEntries r
def uptoBulkEntry {H : Type} : Lit × DataW H → Nat
  | (.string bytes, d) => bytes.length + uptoBulk d + 1
  | (_, d) => uptoBulk d + 1
 end
def uptoSmall : (H : Type) → List (DataW H) → Bool := fun _ ds => decide (uptoBulkAll ds ≤ 1048576)
def OpenSpec.upto (s : _root_.Go.ChangeSpec) : _root_.Go.OpenSpec := { _root_.Go.OpenSpec.ofChange s with cond := some uptoSmall }

/-- 'constraintlaw21.HistoryRight', WHERE WHAT IT READS IS OF BULK AT MOST 1048576: true; the input reads as it did. -/
def historyRightUptoRow : OpenClaim := { program := "ytdjkaapmaonegaa", sum := "892cd520d0d25954d828721211ecaee5f5de10fdccaf1895834f972868eb7367", func := "constraint/constraintlaw21.HistoryRight", spec := "historyRight", inPlace := ["slices.overlaps[constraint/api.Fire]"], unfollowed := true, recurses := true, apart := false, narrowed := true }
def HistoryRightUptoSaid : Prop := historyRightUptoRow.holds Try.pinned (OpenSpec.upto historyRightSpec)

/-- 'constraintlaw21.HistoryOrder', WHERE WHAT IT READS IS OF BULK AT MOST 1048576: true; the input reads as it did. -/
def historyOrderUptoRow : OpenClaim := { program := "ytdjkaapmaonegaa", sum := "892cd520d0d25954d828721211ecaee5f5de10fdccaf1895834f972868eb7367", func := "constraint/constraintlaw21.HistoryOrder", spec := "historyOrder", inPlace := ["slices.overlaps[constraint/api.Fire]"], unfollowed := true, recurses := true, apart := false, narrowed := true }
def HistoryOrderUptoSaid : Prop := historyOrderUptoRow.holds Try.pinned (OpenSpec.upto historyOrderSpec)

/-- 'constraintlaw21.HistoryAdds', WHERE WHAT IT READS IS OF BULK AT MOST 1048576: true; the input reads as it did. -/
def historyAddsUptoRow : OpenClaim := { program := "ytdjkaapmaonegaa", sum := "892cd520d0d25954d828721211ecaee5f5de10fdccaf1895834f972868eb7367", func := "constraint/constraintlaw21.HistoryAdds", spec := "historyAdds", inPlace := ["slices.overlaps[constraint/api.Fire]"], unfollowed := true, recurses := true, apart := false, narrowed := true }
def HistoryAddsUptoSaid : Prop := historyAddsUptoRow.holds Try.pinned (OpenSpec.upto historyAddsSpec)

/-- 'constraintlaw21.HistoryAll', WHERE WHAT IT READS IS OF BULK AT MOST 1048576: true; the input reads as it did. -/
def historyAllUptoRow : OpenClaim := { program := "ytdjkaapmaonegaa", sum := "892cd520d0d25954d828721211ecaee5f5de10fdccaf1895834f972868eb7367", func := "constraint/constraintlaw21.HistoryAll", spec := "historyAll", inPlace := ["slices.overlaps[constraint/api.Fire]"], unfollowed := true, recurses := true, apart := false, narrowed := true }
def HistoryAllUptoSaid : Prop := historyAllUptoRow.holds Try.pinned (OpenSpec.upto historyAllSpec)

/-- 'constraintlaw21.HistorySets', WHERE WHAT IT READS IS OF BULK AT MOST 1048576: true; the input reads as it did. -/
def historySetsUptoRow : OpenClaim := { program := "ytdjkaapmaonegaa", sum := "892cd520d0d25954d828721211ecaee5f5de10fdccaf1895834f972868eb7367", func := "constraint/constraintlaw21.HistorySets", spec := "historySets", inPlace := ["slices.overlaps[constraint/api.Fire]"], unfollowed := true, recurses := true, apart := false, narrowed := true }
def HistorySetsUptoSaid : Prop := historySetsUptoRow.holds Try.pinned (OpenSpec.upto historySetsSpec)

/-- 'constraintlaw21.HistoryPrunes', WHERE WHAT IT READS IS OF BULK AT MOST 1048576: true; the input reads as it did. -/
def historyPrunesUptoRow : OpenClaim := { program := "ytdjkaapmaonegaa", sum := "892cd520d0d25954d828721211ecaee5f5de10fdccaf1895834f972868eb7367", func := "constraint/constraintlaw21.HistoryPrunes", spec := "historyPrunes", inPlace := ["slices.overlaps[constraint/api.Fire]"], unfollowed := true, recurses := true, apart := false, narrowed := true }
def HistoryPrunesUptoSaid : Prop := historyPrunesUptoRow.holds Try.pinned (OpenSpec.upto historyPrunesSpec)

/-- 'constraintlaw21.HistoryPrunesTwice', WHERE WHAT IT READS IS OF BULK AT MOST 1048576: true; the input reads as it did. -/
def historyPrunesTwiceUptoRow : OpenClaim := { program := "ytdjkaapmaonegaa", sum := "892cd520d0d25954d828721211ecaee5f5de10fdccaf1895834f972868eb7367", func := "constraint/constraintlaw21.HistoryPrunesTwice", spec := "historyPrunesTwice", inPlace := ["slices.overlaps[constraint/api.Fire]"], unfollowed := true, recurses := true, apart := false, narrowed := true }
def HistoryPrunesTwiceUptoSaid : Prop := historyPrunesTwiceUptoRow.holds Try.pinned (OpenSpec.upto historyPrunesTwiceSpec)

end Rows
end Go.Proofs.Ytdjkaapmaonegaa
