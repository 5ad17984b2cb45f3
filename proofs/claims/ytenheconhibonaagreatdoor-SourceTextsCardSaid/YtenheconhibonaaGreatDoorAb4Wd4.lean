/-
  The row of a law, and its card.
-/
import Derived.Test.YtenheconhibonaaGreatDoorAbSix
import Derived.Test.YtenheconhibonaaGreatDoorRows
import Derived.Test.YtenheconhibonaaGreatDoorCards
import Derived.Test.YtenheconhibonaaGreatDoorTie
import Derived.SevenTiedAt
import Derived.LaidMore
import Derived.LaidHandle
import Derived.Stop.Joined
set_option linter.unusedVariables false
set_option linter.unusedSimpArgs false
set_option maxHeartbeats 4000000
namespace Go.Proofs.YtenheconhibonaaGreatDoor
open Go Go.ChangeShapes Go.WideShapes Go.ChangeAt Go.RowKit Go.Proofs.YtenheconhibonaaGreatDoor.Ab
theorem srcTexts_door (os : Os) (args : Array Value) : laidMetH Tryz.prog Rows.sourceTextsRow.laid ((World.doorLaid Tryz.prog 400 os).forCall (fun _ _ => 0) ⟨#[], args, []⟩).memory :=
  laidMetH_of_parts3 (fuel := 8) (laidMet_of_run' 8 (by kernel_rfl) (by kernel_rfl)) (by kernel_rfl) (by kernel_rfl)
set_option maxRecDepth 100000 in
theorem srcTexts_lifted (os : Os) (started : os.Started) (H : Type) (enc : TypeId × Value → H) :
    ReturnsInHanded {} Tryz.checked os 4 .any (fun w args => (Rows.sourceTextsSpec.pre enc Tryz.prog Tryz.f4 [] false w args ∧ laidMetH Tryz.prog Rows.sourceTextsRow.laid w) ∧ sizedMet enc Tryz.prog Tryz.f4 (OpenSpec.ofChange Rows.sourceTextsSpec) false w args)
      (Rows.sourceTextsSpec.post enc Tryz.prog Tryz.f4 false true false false) := by
  refine returnsInHanded_of_change_and (C := Tryz.checked) (X := fun w _ => laidMetH Tryz.prog Rows.sourceTextsRow.laid w) (fun _ _ _ hh h => h.of_heap hh) (by kernel_rfl) started (by kernel_rfl) Tryz.func4
    (ChangeSpec.witness_shaped (enc := enc) (C := Tryz.checked) (os := os) (X := fun w _ => laidMetH Tryz.prog Rows.sourceTextsRow.laid w) false (World.doorLaid Tryz.prog 400 os) #[.agg #[.slice none 0 0, .slice none 0 0], .slice none 0 0] 8 rfl (World.shaped_of_RefB (by kernel_rfl) (by kernel_rfl)) (by kernel_rfl) (by kernel_rfl) (by kernel_rfl) (srcTexts_door os _)) ?_
  intro W base args ds gs before hval0 hW _ _ hL _
  have hval : ∀ (j : Nat) t v, Tryz.f4.params[j]? = some t → args[j]? = some v → Value.okWide Tryz.prog W .any base t v := hval0
  have hW' := hW
  obtain ⟨p, q, hA0, hV, rfl, hfz, hnd⟩ := hW
  have hA : DataW.TrodAll enc Tryz.prog W 0 (fun _ => true) true Tryz.f4.params.toList args.toList ds p := hA0
  rw [Tryz.params4] at hA hval
  obtain ⟨v0, vs0, d0, ds0, p0, q0, hargs, rfl, rfl, h0, r0⟩ := trodAll_cons hA
  obtain ⟨v1, vs1, d1, ds1, p1, q1, rfl, rfl, rfl, h1, r1⟩ := trodAll_cons r0
  obtain ⟨rfl, rfl, rfl⟩ := trodAll_nil r1
  obtain ⟨rfl, rfl⟩ := trodVars_none hV
  obtain rfl : args = [v0, v1].toArray := by cases args; simp_all
  obtain ⟨t0, o0, e0⟩ := QhF (val := Pg.av) (Good := Pg.ok) Tryz.underlying35 (hval 0 _ v0 rfl rfl) h0 (fun t => ⟨_, rfl⟩) (QgC enc W)
  obtain ⟨l1, o1, e1⟩ := Qjc (val := G.goal) (Good := G.ok) (s := 3) Tryz.underlying23 (by kernel_rfl) (by omega) (fun t => by rw [Q3]; rfl) (hval 1 _ v1 rfl rfl) h1 (QdH enc W)
  have n1 := Y9 e1
  obtain ⟨ty0, fr0, eT⟩ := Qhw (nm := "internal/strconv.uint64pow10") (k := .u64) (zs := Lib.pow10Tab) (g := 0) (t := 216) (e := 205) (n := 20) (by kernel_rfl) (by kernel_rfl) Tryz.underlying216 Tryz.underlying205 (by kernel_rfl) (by kernel_rfl) (QhC hL (by kernel_rfl))
  have hwG : ∀ x ∈ ([⟨0, tabC, ty0, fr0⟩] : List GV), W.heap[x.g]? = some (.cells x.cs x.ty x.fr) := by
    intro x hx
    rw [List.mem_singleton.1 hx]
    exact eT
  refine (Qeh hwG (show ([0] : List Nat).Nodup by decide) (Qk2 t0 l1 o0 n1 o1 _ ⟨0, ty0, fr0, rfl⟩) (Qeq (QdD e0 (QdD e1 (Qhn _))))).mono fun e W' ⟨he, hb⟩ => ?_
  subst he
  exact ⟨_, rfl, Qek (by kernel_rfl) rfl rfl Tryz.underlying4 (by rw [Tryz.params4]; intro t ht; simp at ht; rcases ht with rfl | rfl <;> exact ⟨by kernel_rfl, by decide +kernel⟩) hW' rfl hb⟩
theorem srcTexts_row : Rows.SourceTextsSaid :=
  OpenClaim.holds_of_wide 4 Tryz.f4 rfl rfl rfl rfl rfl rfl rfl ⟨rfl, rfl, rfl, rfl, rfl⟩ rfl rfl rfl rfl rfl (by kernel_rfl) Tryz.func4 (by kernel_rfl)
    (of_decide_eq_true (by kernel_rfl)) (by unfold Func.isWrapper; first | (rw [if_pos (by decide +kernel)]; kernel_rfl) | (rw [if_neg (by decide +kernel)]; exact ⟨rfl, rfl⟩))
    (fun os started H enc _ => srcTexts_lifted os started H enc)
theorem srcTexts_holds : Rows.SourceTextsCardSaid :=
  Claim7.holds_tied_plain_at .later [] [.data, .data, .data] true Rows.sourceTextsCard.stood.harness true
    srcTexts_row (fun _ h => by cases h) (by kernel_rfl) (fun _ h => by cases h) sourceTexts_row_tie rfl ⟨rfl, rfl⟩ (by kernel_rfl) rfl
    (fun f fn hf hfn => by
      obtain rfl : f = 4 := Option.some.inj ((show Tryz.prog.funcNamed Rows.sourceTextsRow.func = some 4 by kernel_rfl).symm.trans hf) |>.symm
      obtain rfl : fn = Tryz.f4 := (Option.some.inj (Tryz.func4.symm.trans hfn)).symm
      exact ⟨by kernel_rfl, fun j t ht => by
        rw [Tryz.params4] at ht
        have hm : t ∈ [35, 23] := by simpa using Array.mem_of_getElem? ht
        have hall : ([35, 23].all fun u => !Tryz.prog.wantsStandIn u) = true := by kernel_rfl
        exact (show Tryz.prog.wantsStandIn t = false by simpa using List.all_eq_true.1 hall t hm)⟩)
    (by kernel_rfl)
end Go.Proofs.YtenheconhibonaaGreatDoor
