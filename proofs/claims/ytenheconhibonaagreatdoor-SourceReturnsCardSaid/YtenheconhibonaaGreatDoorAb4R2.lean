/-
  SourceReturns returns true for all programs, and its inputs read as before; the package-level variables start as the program's text lays them.
-/
import Derived.Test.YtenheconhibonaaGreatDoorAbSix
import Derived.Test.YtenheconhibonaaGreatDoorAbFour
import Derived.Test.YtenheconhibonaaGreatDoorRows
import Derived.Test.YtenheconhibonaaGreatDoorCards
import Derived.Test.YtenheconhibonaaGreatDoorTie
import Derived.SevenTiedAt
import Derived.LaidMore
import Derived.LaidHandle
import Derived.Stop.Joined
set_option linter.unusedVariables false
set_option linter.unusedSimpArgs false
set_option maxHeartbeats 4000000
set_option maxRecDepth 4000
namespace Go.Proofs.YtenheconhibonaaGreatDoor
open Go Go.ChangeShapes Go.WideShapes Go.ChangeAt Go.RowKit Go.Proofs.YtenheconhibonaaGreatDoor.Ab
theorem srcReturns_door (os : Os) (args : Array Value) : laidMetH Tryz.prog Rows.sourceReturnsRow.laid ((World.doorLaid Tryz.prog 400 os).forCall (fun _ _ => 0) ⟨#[], args, []⟩).memory :=
  laidMetH_of_parts3 (fuel := 8) (laidMet_of_run' 8 (by kernel_rfl) (by kernel_rfl)) (by kernel_rfl) (by kernel_rfl)
set_option maxRecDepth 100000 in
theorem srcReturns_lifted (os : Os) (started : os.Started) (H : Type) (enc : TypeId × Value → H) :
    ReturnsInHanded {} Tryz.checked os 7 .any (fun w args => (Rows.sourceReturnsSpec.pre enc Tryz.prog Tryz.f7 [] false w args ∧ laidMetH Tryz.prog Rows.sourceReturnsRow.laid w) ∧ sizedMet enc Tryz.prog Tryz.f7 (OpenSpec.ofChange Rows.sourceReturnsSpec) false w args)
      (Rows.sourceReturnsSpec.post enc Tryz.prog Tryz.f7 false true false false) := by
  refine returnsInHanded_of_change_and (C := Tryz.checked) (X := fun w _ => laidMetH Tryz.prog Rows.sourceReturnsRow.laid w) (fun _ _ _ hh h => h.of_heap hh) (by kernel_rfl) started (by kernel_rfl) Tryz.func7
    (ChangeSpec.witness_shaped (enc := enc) (C := Tryz.checked) (os := os) (X := fun w _ => laidMetH Tryz.prog Rows.sourceReturnsRow.laid w) false (World.doorLaid Tryz.prog 400 os) #[.agg #[.slice none 0 0, .slice none 0 0]] 8 rfl (World.shaped_of_RefB (by kernel_rfl) (by kernel_rfl)) (by kernel_rfl) (by kernel_rfl) (by kernel_rfl) (srcReturns_door os _)) ?_
  intro W base args ds gs before hval0 hW _ _ hL _
  have hval : ∀ (j : Nat) t v, Tryz.f7.params[j]? = some t → args[j]? = some v → Value.okWide Tryz.prog W .any base t v := hval0
  have hW' := hW
  obtain ⟨p, q, hA0, hV, rfl, hfz, hnd⟩ := hW
  have hA : DataW.TrodAll enc Tryz.prog W 0 (fun _ => true) true Tryz.f7.params.toList args.toList ds p := hA0
  rw [Tryz.params7] at hA hval
  obtain ⟨v0, vs0, d0, ds0, p0, q0, hargs, rfl, rfl, h0, r0⟩ := trodAll_cons hA
  obtain ⟨rfl, rfl, rfl⟩ := trodAll_nil r0
  obtain ⟨rfl, rfl⟩ := trodVars_none hV
  obtain rfl : args = [v0].toArray := by cases args; simp_all
  obtain ⟨t0, o0, e0⟩ := Qsy (val := Pg.av) (Good := Pg.ok) Tryz.underlying35 (hval 0 _ v0 rfl rfl) h0 (fun t => ⟨_, rfl⟩) (Qly enc W)
  obtain ⟨ty0, fr0, eG0⟩ := Qsl (nm := "internal/strconv.uint64pow10") (k := .u64) (zs := Lib.pow10Tab) (g := 0) (t := 216) (e := 205) (n := 20) (by kernel_rfl) (by kernel_rfl) Tryz.underlying216 Tryz.underlying205 (by kernel_rfl) (by kernel_rfl) (Qnp hL (by kernel_rfl))
  obtain ⟨ty1, fr1, eG1⟩ := Qqy (nm := "constraint/token.symbols") (zs := XQ) (g := 3) (t := 232) (e := 9) (n := 23) (by kernel_rfl) (by kernel_rfl) Tryz.underlying232 Tryz.underlying9 (by kernel_rfl) (by kernel_rfl) (Qnp hL (by kernel_rfl))
  have hwG : ∀ x ∈ ([⟨0, tabC, ty0, fr0⟩, ⟨3, symC, ty1, fr1⟩] : List GV), W.heap[x.g]? = some (.cells x.cs x.ty x.fr) := by
    intro x hx
    simp only [List.mem_cons, List.not_mem_nil, or_false] at hx
    rcases hx with rfl | rfl
    · exact eG0
    · exact eG1
  refine (Qox hwG (show ([0, 3] : List Nat).Nodup by decide) (Qwu t0 o0 _ ⟨0, ty0, fr0, rfl⟩ ⟨1, ty1, fr1, rfl⟩) (QoS (Qrj e0 (QsJ _)))).mono fun e W' ⟨he, hb⟩ => ?_
  subst he
  exact ⟨_, rfl, QoN (by kernel_rfl) rfl rfl Tryz.underlying4 (by rw [Tryz.params7]; intro t ht; simp at ht; rcases ht with rfl <;> exact ⟨by kernel_rfl, by decide +kernel⟩) hW' rfl hb⟩
theorem srcReturns_row : Rows.SourceReturnsSaid :=
  OpenClaim.holds_of_wide 7 Tryz.f7 rfl rfl rfl rfl rfl rfl rfl ⟨rfl, rfl, rfl, rfl, rfl⟩ rfl rfl rfl rfl rfl (by kernel_rfl) Tryz.func7 (by kernel_rfl)
    (of_decide_eq_true (by kernel_rfl)) (by unfold Func.isWrapper; first | (rw [if_pos (by decide +kernel)]; kernel_rfl) | (rw [if_neg (by decide +kernel)]; exact ⟨rfl, rfl⟩))
    (fun os started H enc _ => srcReturns_lifted os started H enc)
theorem srcReturns_holds : Rows.SourceReturnsCardSaid :=
  Claim7.holds_tied_plain_at .later [] [.data, .data, .data, .data] true Rows.sourceReturnsCard.stood.harness true
    srcReturns_row (fun _ h => by cases h) (by kernel_rfl) (fun _ h => by cases h) sourceReturns_row_tie rfl ⟨rfl, rfl⟩ (by kernel_rfl) rfl
    (fun f fn hf hfn => by
      obtain rfl : f = 7 := Option.some.inj ((show Tryz.prog.funcNamed Rows.sourceReturnsRow.func = some 7 by kernel_rfl).symm.trans hf) |>.symm
      obtain rfl : fn = Tryz.f7 := (Option.some.inj (Tryz.func7.symm.trans hfn)).symm
      exact ⟨by kernel_rfl, fun j t ht => by
        rw [Tryz.params7] at ht
        have hm : t ∈ [35] := by simpa using Array.mem_of_getElem? ht
        have hall : ([35].all fun u => !Tryz.prog.wantsStandIn u) = true := by kernel_rfl
        exact (show Tryz.prog.wantsStandIn t = false by simpa using List.all_eq_true.1 hall t hm)⟩)
    (by kernel_rfl)
end Go.Proofs.YtenheconhibonaaGreatDoor

