/-
  CanonRenames returns true for all cases and numbers, and its inputs read as before; the package-level variables start as the program's text lays them.
-/
import Derived.Test.YtniljpjjnmkoaaaGreatDoorAbSix
import Derived.Test.YtniljpjjnmkoaaaGreatDoorAbSeven
import Derived.Test.YtniljpjjnmkoaaaGreatDoorRows
import Derived.Test.YtniljpjjnmkoaaaGreatDoorCards
import Derived.Test.YtniljpjjnmkoaaaGreatDoorTie
import Derived.SevenTiedAt
import Derived.LaidMore
import Derived.LaidHandle
import Derived.Stop.Joined
set_option linter.unusedVariables false
set_option linter.unusedSimpArgs false
set_option maxHeartbeats 4000000
namespace Go.Proofs.YtniljpjjnmkoaaaGreatDoor
open Go Go.ChangeShapes Go.WideShapes Go.ChangeAt Go.RowKit Go.Proofs.YtniljpjjnmkoaaaGreatDoor.Ab
theorem renames_door (os : Os) (args : Array Value) : laidMetH Tryz.prog Rows.canonRenamesRow.laid ((World.doorLaid Tryz.prog 400 os).forCall (fun _ _ => 0) ⟨#[], args, []⟩).memory :=
  laidMetH_of_parts3 (fuel := 8) (laidMet_of_run' 8 (by kernel_rfl) (by kernel_rfl)) (by kernel_rfl) (by kernel_rfl)
set_option maxRecDepth 100000 in
theorem renames_lifted (os : Os) (started : os.Started) (H : Type) (enc : TypeId × Value → H) :
    ReturnsInHanded {} Tryz.checked os 4 .any (fun w args => (Rows.canonRenamesSpec.pre enc Tryz.prog Tryz.f4 [] false w args ∧ laidMetH Tryz.prog Rows.canonRenamesRow.laid w) ∧ sizedMet enc Tryz.prog Tryz.f4 (OpenSpec.ofChange Rows.canonRenamesSpec) false w args)
      (Rows.canonRenamesSpec.post enc Tryz.prog Tryz.f4 false true false false) := by
  refine returnsInHanded_of_change_and (C := Tryz.checked) (X := fun w _ => laidMetH Tryz.prog Rows.canonRenamesRow.laid w) (fun _ _ _ hh h => h.of_heap hh) (by kernel_rfl) started (by kernel_rfl) Tryz.func4
    (ChangeSpec.witness_shaped (enc := enc) (C := Tryz.checked) (os := os) (X := fun w _ => laidMetH Tryz.prog Rows.canonRenamesRow.laid w) false (World.doorLaid Tryz.prog 400 os) #[.agg #[.int .i64 0, .slice none 0 0, .slice none 0 0, .bool false], .int .i64 0] 8 rfl (World.shaped_of_RefB (by kernel_rfl) (by kernel_rfl)) (by kernel_rfl) (by kernel_rfl) (by kernel_rfl) (renames_door os _)) ?_
  intro W base args ds gs before hval0 hW _ _ hL _
  have hval : ∀ (j : Nat) t v, Tryz.f4.params[j]? = some t → args[j]? = some v → Value.okWide Tryz.prog W .any base t v := hval0
  have hW' := hW
  obtain ⟨p, q, hA0, hV, rfl, hfz, hnd⟩ := hW
  have hA : DataW.TrodAll enc Tryz.prog W 0 (fun _ => true) true Tryz.f4.params.toList args.toList ds p := hA0
  rw [Tryz.params4] at hA hval
  obtain ⟨v0, vs0, d0, ds0, p0, q0, hargs, rfl, rfl, h0, r0⟩ := trodAll_cons hA
  obtain ⟨v1, vs1, d1, ds1, p1, q1, rfl, rfl, rfl, h1, r1⟩ := trodAll_cons r0
  obtain ⟨rfl, rfl, rfl⟩ := trodAll_nil r1
  obtain ⟨rfl, rfl⟩ := trodVars_none hV
  obtain rfl : args = [v0, v1].toArray := by cases args; simp_all
  obtain ⟨t0, o0, e0⟩ := Ql9 (val := Cs.av) (Good := Cs.ok) Tryz.underlying26 (hval 0 _ v0 rfl rfl) h0 (fun t => ⟨_, rfl⟩) (QkB enc W)
  obtain ⟨k1, rfl, _, _, u1⟩ := open_int Tryz.underlying3 (hval 1 _ v1 rfl rfl) h1
  obtain ⟨ty0, fr0, eT⟩ := QmE (nm := "internal/strconv.uint64pow10") (k := .u64) (zs := Lib.pow10Tab) (g := 1) (t := 207) (e := 195) (n := 20) (by kernel_rfl) (by kernel_rfl) Tryz.underlying207 Tryz.underlying195 (by kernel_rfl) (by kernel_rfl) (Qmv hL (by kernel_rfl))
  have hwG : ∀ x ∈ ([⟨1, tabC, ty0, fr0⟩] : List GV), W.heap[x.g]? = some (.cells x.cs x.ty x.fr) := by
    intro x hx
    rw [List.mem_singleton.1 hx]
    exact eT
  refine (Qjt hwG (show ([1] : List Nat).Nodup by decide) (QoG t0 o0 k1 _ ⟨0, ty0, fr0, rfl⟩) (QjD (QgY e0 (QgY (.v _) (QlS _))))).mono fun e W' ⟨he, hb⟩ => ?_
  subst he
  exact ⟨_, rfl, Qi3 (by kernel_rfl) rfl rfl Tryz.underlying4 (by rw [Tryz.params4]; intro t ht; simp at ht; rcases ht with rfl | rfl <;> exact ⟨by kernel_rfl, by decide +kernel⟩) hW' rfl hb⟩
theorem renames_row : Rows.CanonRenamesSaid :=
  OpenClaim.holds_of_wide 4 Tryz.f4 rfl rfl rfl rfl rfl rfl rfl ⟨rfl, rfl, rfl, rfl, rfl⟩ rfl rfl rfl rfl rfl (by kernel_rfl) Tryz.func4 (by kernel_rfl)
    (of_decide_eq_true (by kernel_rfl)) (by unfold Func.isWrapper; first | (rw [if_pos (by decide +kernel)]; kernel_rfl) | (rw [if_neg (by decide +kernel)]; exact ⟨rfl, rfl⟩))
    (fun os started H enc _ => renames_lifted os started H enc)
theorem renames_holds : Rows.CanonRenamesCardSaid :=
  Claim7.holds_tied_plain_at .later [] [.data, .data, .data] true Rows.canonRenamesCard.stood.harness false
    renames_row (fun _ h => by cases h) (by kernel_rfl) (fun _ h => by cases h) canonRenames_row_tie rfl ⟨rfl, rfl⟩ (by kernel_rfl) rfl
    (fun f fn hf hfn => by
      obtain rfl : f = 4 := Option.some.inj ((show Tryz.prog.funcNamed Rows.canonRenamesRow.func = some 4 by kernel_rfl).symm.trans hf) |>.symm
      obtain rfl : fn = Tryz.f4 := (Option.some.inj (Tryz.func4.symm.trans hfn)).symm
      exact ⟨by kernel_rfl, fun j t ht => by
        rw [Tryz.params4] at ht
        have hm : t ∈ [26, 3] := by simpa using Array.mem_of_getElem? ht
        have hall : ([26, 3].all fun u => !Tryz.prog.wantsStandIn u) = true := by kernel_rfl
        exact (show Tryz.prog.wantsStandIn t = false by simpa using List.all_eq_true.1 hall t hm)⟩)
    (by kernel_rfl)
end Go.Proofs.YtniljpjjnmkoaaaGreatDoor

