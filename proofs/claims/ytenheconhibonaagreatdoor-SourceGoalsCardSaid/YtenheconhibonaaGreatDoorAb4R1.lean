/-
  SourceGoals returns true for all goals, and its inputs read as before; the package-level variables start as the program's text lays them.
-/
import Derived.Test.YtenheconhibonaaGreatDoorAbSix
import Derived.Test.YtenheconhibonaaGreatDoorAbFour
import Derived.Test.YtenheconhibonaaGreatDoorRows
import Derived.Test.YtenheconhibonaaGreatDoorCards
import Derived.Test.YtenheconhibonaaGreatDoorTie
import Derived.SevenTiedAt
import Derived.LaidMore
import Derived.LaidHandle
import Derived.Stop.Joined
set_option linter.unusedVariables false
set_option linter.unusedSimpArgs false
set_option maxHeartbeats 4000000
set_option maxRecDepth 4000
namespace Go.Proofs.YtenheconhibonaaGreatDoor
open Go Go.ChangeShapes Go.WideShapes Go.ChangeAt Go.RowKit Go.Proofs.YtenheconhibonaaGreatDoor.Ab
theorem srcGoals_door (os : Os) (args : Array Value) : laidMetH Tryz.prog Rows.sourceGoalsRow.laid ((World.doorLaid Tryz.prog 400 os).forCall (fun _ _ => 0) ⟨#[], args, []⟩).memory :=
  laidMetH_of_parts3 (fuel := 8) (laidMet_of_run' 8 (by kernel_rfl) (by kernel_rfl)) (by kernel_rfl) (by kernel_rfl)
set_option maxRecDepth 100000 in
theorem srcGoals_lifted (os : Os) (started : os.Started) (H : Type) (enc : TypeId × Value → H) :
    ReturnsInHanded {} Tryz.checked os 6 .any (fun w args => (Rows.sourceGoalsSpec.pre enc Tryz.prog Tryz.f6 [] false w args ∧ laidMetH Tryz.prog Rows.sourceGoalsRow.laid w) ∧ sizedMet enc Tryz.prog Tryz.f6 (OpenSpec.ofChange Rows.sourceGoalsSpec) false w args)
      (Rows.sourceGoalsSpec.post enc Tryz.prog Tryz.f6 false true false false) := by
  refine returnsInHanded_of_change_and (C := Tryz.checked) (X := fun w _ => laidMetH Tryz.prog Rows.sourceGoalsRow.laid w) (fun _ _ _ hh h => h.of_heap hh) (by kernel_rfl) started (by kernel_rfl) Tryz.func6
    (ChangeSpec.witness_shaped (enc := enc) (C := Tryz.checked) (os := os) (X := fun w _ => laidMetH Tryz.prog Rows.sourceGoalsRow.laid w) false (World.doorLaid Tryz.prog 400 os) #[.slice none 0 0] 8 rfl (World.shaped_of_RefB (by kernel_rfl) (by kernel_rfl)) (by kernel_rfl) (by kernel_rfl) (by kernel_rfl) (srcGoals_door os _)) ?_
  intro W base args ds gs before hval0 hW _ _ hL _
  have hval : ∀ (j : Nat) t v, Tryz.f6.params[j]? = some t → args[j]? = some v → Value.okWide Tryz.prog W .any base t v := hval0
  have hW' := hW
  obtain ⟨p, q, hA0, hV, rfl, hfz, hnd⟩ := hW
  have hA : DataW.TrodAll enc Tryz.prog W 0 (fun _ => true) true Tryz.f6.params.toList args.toList ds p := hA0
  rw [Tryz.params6] at hA hval
  obtain ⟨v0, vs0, d0, ds0, p0, q0, hargs, rfl, rfl, h0, r0⟩ := trodAll_cons hA
  obtain ⟨rfl, rfl, rfl⟩ := trodAll_nil r0
  obtain ⟨rfl, rfl⟩ := trodVars_none hV
  obtain rfl : args = [v0].toArray := by cases args; simp_all
  obtain ⟨l0, o0, e0⟩ := QoI (val := G.goal) (Good := G.ok) (s := 3) Tryz.underlying23 (by kernel_rfl) (by omega) (fun t => by rw [Q4]; rfl) (hval 0 _ v0 rfl rfl) h0 (Qo2 enc W)
  have n0 := Qee e0
  obtain ⟨ty0, fr0, eG0⟩ := Qqb (nm := "internal/strconv.uint64pow10") (k := .u64) (zs := Lib.pow10Tab) (g := 0) (t := 216) (e := 205) (n := 20) (by kernel_rfl) (by kernel_rfl) Tryz.underlying216 Tryz.underlying205 (by kernel_rfl) (by kernel_rfl) (Qlx hL (by kernel_rfl))
  obtain ⟨ty1, fr1, eG1⟩ := Qom (nm := "constraint/token.symbols") (zs := X3) (g := 3) (t := 232) (e := 9) (n := 23) (by kernel_rfl) (by kernel_rfl) Tryz.underlying232 Tryz.underlying9 (by kernel_rfl) (by kernel_rfl) (Qlx hL (by kernel_rfl))
  have hwG : ∀ x ∈ ([⟨0, tabC, ty0, fr0⟩, ⟨3, symC, ty1, fr1⟩] : List GV), W.heap[x.g]? = some (.cells x.cs x.ty x.fr) := by
    intro x hx
    simp only [List.mem_cons, List.not_mem_nil, or_false] at hx
    rcases hx with rfl | rfl
    · exact eG0
    · exact eG1
  refine (QmA hwG (show ([0, 3] : List Nat).Nodup by decide) (Qt0 l0 n0 o0 _ ⟨0, ty0, fr0, rfl⟩ ⟨1, ty1, fr1, rfl⟩) (QmR (Qo5 e0 (Qqx _)))).mono fun e W' ⟨he, hb⟩ => ?_
  subst he
  exact ⟨_, rfl, QmN (by kernel_rfl) rfl rfl Tryz.underlying4 (by rw [Tryz.params6]; intro t ht; simp at ht; rcases ht with rfl <;> exact ⟨by kernel_rfl, by decide +kernel⟩) hW' rfl hb⟩
theorem srcGoals_row : Rows.SourceGoalsSaid :=
  OpenClaim.holds_of_wide 6 Tryz.f6 rfl rfl rfl rfl rfl rfl rfl ⟨rfl, rfl, rfl, rfl, rfl⟩ rfl rfl rfl rfl rfl (by kernel_rfl) Tryz.func6 (by kernel_rfl)
    (of_decide_eq_true (by kernel_rfl)) (by unfold Func.isWrapper; first | (rw [if_pos (by decide +kernel)]; kernel_rfl) | (rw [if_neg (by decide +kernel)]; exact ⟨rfl, rfl⟩))
    (fun os started H enc _ => srcGoals_lifted os started H enc)
theorem srcGoals_holds : Rows.SourceGoalsCardSaid :=
  Claim7.holds_tied_plain_at .later [] [.data, .data, .data, .data] true Rows.sourceGoalsCard.stood.harness true
    srcGoals_row (fun _ h => by cases h) (by kernel_rfl) (fun _ h => by cases h) sourceGoals_row_tie rfl ⟨rfl, rfl⟩ (by kernel_rfl) rfl
    (fun f fn hf hfn => by
      obtain rfl : f = 6 := Option.some.inj ((show Tryz.prog.funcNamed Rows.sourceGoalsRow.func = some 6 by kernel_rfl).symm.trans hf) |>.symm
      obtain rfl : fn = Tryz.f6 := (Option.some.inj (Tryz.func6.symm.trans hfn)).symm
      exact ⟨by kernel_rfl, fun j t ht => by
        rw [Tryz.params6] at ht
        have hm : t ∈ [23] := by simpa using Array.mem_of_getElem? ht
        have hall : ([23].all fun u => !Tryz.prog.wantsStandIn u) = true := by kernel_rfl
        exact (show Tryz.prog.wantsStandIn t = false by simpa using List.all_eq_true.1 hall t hm)⟩)
    (by kernel_rfl)
end Go.Proofs.YtenheconhibonaaGreatDoor

