/-
  NameNumbers returns true for every string, and its input reads as before; the package-level variables start as the program's text lays them.
-/
import Derived.Test.YthkiabcdkhpheaaDoorAb02r
import Derived.Test.YthkiabcdkhpheaaDoorAb02h
import Derived.Test.YthkiabcdkhpheaaDoorRows
import Derived.Test.YthkiabcdkhpheaaDoorCards
import Derived.Test.YthkiabcdkhpheaaDoorTie
import Derived.SevenTiedAt
import Derived.LaidMore
import Derived.LaidHandle
import Derived.Stop.Joined
set_option linter.unusedVariables false
set_option maxHeartbeats 4000000
namespace Go.Proofs.YthkiabcdkhpheaaDoor
open Go Go.ChangeShapes Go.WideShapes Go.ChangeAt Go.RowKit Go.Proofs.YthkiabcdkhpheaaDoor.Ab

theorem numbers_door (os : Os) (args : Array Value) : laidMetH Tryd.prog Rows.nameNumbersRow.laid ((World.doorLaid Tryd.prog 400 os).forCall (fun _ _ => 0) ⟨#[], args, []⟩).memory :=
  laidMetH_of_parts3 (fuel := 8) (laidMet_of_run' 8 (by kernel_rfl) (by kernel_rfl)) (by kernel_rfl) (by kernel_rfl)

set_option maxRecDepth 100000 in
theorem numbers_lifted (os : Os) (started : os.Started) (H : Type) (enc : TypeId × Value → H) :
    ReturnsInHanded {} Tryd.checked os 6 .any (fun w args => (Rows.nameNumbersSpec.pre enc Tryd.prog Tryd.f6 [] false w args ∧ laidMetH Tryd.prog Rows.nameNumbersRow.laid w) ∧ sizedMet enc Tryd.prog Tryd.f6 (OpenSpec.ofChange Rows.nameNumbersSpec) false w args)
      (Rows.nameNumbersSpec.post enc Tryd.prog Tryd.f6 false true false false) := by
  refine returnsInHanded_of_change_and (C := Tryd.checked) (X := fun w _ => laidMetH Tryd.prog Rows.nameNumbersRow.laid w) (fun _ _ _ hh h => h.of_heap hh) (by kernel_rfl) started (by kernel_rfl) Tryd.func6
    (ChangeSpec.witness_shaped (enc := enc) (C := Tryd.checked) (os := os) (X := fun w _ => laidMetH Tryd.prog Rows.nameNumbersRow.laid w) false (World.doorLaid Tryd.prog 400 os) #[.string ⟨#[]⟩] 8 rfl (World.shaped_of_RefB (by kernel_rfl) (by kernel_rfl)) (by kernel_rfl) (by kernel_rfl) (by kernel_rfl) (numbers_door os _)) ?_
  intro W base args ds gs before hval0 hW _ _ hL _
  have hval : ∀ (j : Nat) t v, Tryd.f6.params[j]? = some t → args[j]? = some v → Value.okWide Tryd.prog W .any base t v := hval0
  have hW' := hW
  obtain ⟨p, q, hA0, hV, rfl, hfz, hnd⟩ := hW
  have hA : DataW.TrodAll enc Tryd.prog W 0 (fun _ => true) true Tryd.f6.params.toList args.toList ds p := hA0
  rw [Tryd.params6] at hA hval
  obtain ⟨v0, vs0, d0, ds0, p0, q0, hargs, rfl, rfl, h0, r0⟩ := trodAll_cons hA
  obtain ⟨rfl, rfl, rfl⟩ := trodAll_nil r0
  obtain ⟨rfl, rfl⟩ := trodVars_none hV
  obtain rfl : args = [v0].toArray := by cases args; simp_all
  obtain ⟨s0, rfl, z0⟩ := open_string Tryd.underlying9 (hval 0 _ v0 rfl rfl) h0
  obtain ⟨ty0, fr0, e0⟩ := laid_tab (nm := "internal/strconv.uint64pow10") (k := .u64) (zs := Lib.pow10Tab) (g := 3) (t := 71) (e := 56) (n := 20) (by kernel_rfl) (by kernel_rfl) Tryd.underlying71 Tryd.underlying56 (by kernel_rfl) (by kernel_rfl) (laid_one hL (by kernel_rfl))
  obtain ⟨u1, w1, ty1, fr1, e1⟩ := laid_iface (nm := "strconv.ErrSyntax") (g := 1) (t := 36) (by kernel_rfl) (by kernel_rfl) Tryd.underlying36 (laid_one hL (x := ("strconv.ErrSyntax", Rows.laid_strconv_ErrSyntax)) (by kernel_rfl))
  obtain ⟨u2, w2, ty2, fr2, e2⟩ := laid_iface (nm := "strconv.ErrRange") (g := 2) (t := 36) (by kernel_rfl) (by kernel_rfl) Tryd.underlying36 (laid_one hL (x := ("strconv.ErrRange", Rows.laid_strconv_ErrRange)) (by kernel_rfl))
  have hwG : ∀ x ∈ ([⟨3, tabC, ty0, fr0⟩, ⟨1, #[.iface u1 w1], ty1, fr1⟩, ⟨2, #[.iface u2 w2], ty2, fr2⟩] : List GV), W.heap[x.g]? = some (.cells x.cs x.ty x.fr) := by
    intro x hx
    simp only [List.mem_cons, List.not_mem_nil, or_false] at hx
    rcases hx with rfl | rfl | rfl
    · exact e0
    · exact e1
    · exact e2
  refine (law_callsG hwG (show ([3, 1, 2] : List Nat).Nodup by decide) (lawNumbers s0 _ ⟨0, ty0, fr0, rfl⟩ ⟨⟨u1, w1, 1, ty1, fr1, rfl⟩, u2, w2, 2, ty2, fr2, rfl⟩) (relL_cons (.v _) (relL_nil _))).mono fun e W' ⟨he, hb⟩ => ?_
  subst he
  exact ⟨_, rfl, post_below (by kernel_rfl) rfl rfl Tryd.underlying4 (by rw [Tryd.params6]; intro t ht; simp at ht; rcases ht with rfl <;> exact ⟨by kernel_rfl, by decide +kernel⟩) hW' rfl hb⟩

theorem numbers_row : Rows.NameNumbersSaid :=
  OpenClaim.holds_of_wide 6 Tryd.f6 rfl rfl rfl rfl rfl rfl rfl ⟨rfl, rfl, rfl, rfl, rfl⟩ rfl rfl rfl rfl rfl (by kernel_rfl) Tryd.func6 (by kernel_rfl)
    (of_decide_eq_true (by kernel_rfl)) (by unfold Func.isWrapper; first | (rw [if_pos (by decide +kernel)]; kernel_rfl) | (rw [if_neg (by decide +kernel)]; exact ⟨rfl, rfl⟩))
    (fun os started H enc _ => numbers_lifted os started H enc)

theorem numbers_holds : Rows.NameNumbersCardSaid :=
  Claim7.holds_tied_plain_at .later [] [.data, .data, .data, .sentinel, .sentinel] true Rows.nameNumbersCard.stood.harness true
    numbers_row (fun _ h => by cases h) (by kernel_rfl) (fun _ h => by cases h) nameNumbers_row_tie rfl ⟨rfl, rfl⟩ (by kernel_rfl) rfl
    (fun f fn hf hfn => by
      obtain rfl : f = 6 := Option.some.inj ((show Tryd.prog.funcNamed Rows.nameNumbersRow.func = some 6 by kernel_rfl).symm.trans hf) |>.symm
      obtain rfl : fn = Tryd.f6 := (Option.some.inj (Tryd.func6.symm.trans hfn)).symm
      exact ⟨by kernel_rfl, fun j t ht => by
        rw [Tryd.params6] at ht
        have hm : t ∈ [9] := by simpa using Array.mem_of_getElem? ht
        have hall : ([9].all fun u => !Tryd.prog.wantsStandIn u) = true := by kernel_rfl
        exact (show Tryd.prog.wantsStandIn t = false by simpa using List.all_eq_true.1 hall t hm)⟩)
    (by kernel_rfl)
end Go.Proofs.YthkiabcdkhpheaaDoor
