/-
  TermtextParses returns true for every string, and its input reads as before; the package-level variables start as the program's text lays them.
-/
import Derived.Test.YtehjodmnajgdgaaGreatDoorAbSix
import Derived.Test.YtehjodmnajgdgaaGreatDoorRows
import Derived.Test.YtehjodmnajgdgaaGreatDoorCards
import Derived.Test.YtehjodmnajgdgaaGreatDoorTie
import Derived.SevenTiedAt
import Derived.LaidMore
import Derived.LaidHandle
import Derived.Stop.Joined
import Derived.ProofKit
import Derived.OpenShut
import Derived.Lay
set_option linter.unusedVariables false
set_option linter.unusedSimpArgs false
set_option maxHeartbeats 4000000
namespace Go.Proofs.YtehjodmnajgdgaaGreatDoor
open Go Go.ChangeShapes Go.WideShapes Go.ChangeAt Go.RowKit Go.Proofs.YtehjodmnajgdgaaGreatDoor.Ab
set_option maxRecDepth 100000 in
theorem parses_lifted (os : Os) (started : os.Started) (H : Type) (enc : TypeId × Value → H) :
    ReturnsInHanded {} Tryz.checked os 5 .any (fun w args => (Rows.termtextParsesSpec.pre enc Tryz.prog Tryz.f5 [] false w args ∧ laidMetH Tryz.prog Rows.termtextParsesRow.laid w) ∧ sizedMet enc Tryz.prog Tryz.f5 (OpenSpec.ofChange Rows.termtextParsesSpec) false w args)
      (Rows.termtextParsesSpec.post enc Tryz.prog Tryz.f5 false true false false) := by
  refine returnsInHanded_of_change_and (C := Tryz.checked) (X := fun w _ => laidMetH Tryz.prog Rows.termtextParsesRow.laid w) (fun _ _ _ hh h => h.of_heap hh) (by kernel_rfl) started (by kernel_rfl) Tryz.func5
    (ChangeSpec.witness_shaped (enc := enc) (C := Tryz.checked) (os := os) (X := fun w _ => laidMetH Tryz.prog Rows.termtextParsesRow.laid w) false (World.laidAll Tryz.prog os Rows.termtextParsesRow.laid) #[.string ⟨#[]⟩] 8 (World.laidAll_os _ _ _) (World.shaped_of_ZipB (by kernel_rfl) (by kernel_rfl)) (by kernel_rfl) (by kernel_rfl) (by kernel_rfl) (by rw [MakeChecks.laidMetH_plain _ _ _ (by kernel_rfl)]; exact laidMet_laidAll _ (by kernel_rfl) (by kernel_rfl))) ?_
  intro W base args ds gs before hval0 hW _ _ hL _
  have hval : ∀ (j : Nat) t v, Tryz.f5.params[j]? = some t → args[j]? = some v → Value.okWide Tryz.prog W .any base t v := hval0
  have hW' := hW
  obtain ⟨p, q, hA0, hV, rfl, hfz, hnd⟩ := hW
  have hA : DataW.TrodAll enc Tryz.prog W 0 (fun _ => true) true Tryz.f5.params.toList args.toList ds p := hA0
  rw [Tryz.params5] at hA hval
  obtain ⟨v0, vs0, d0, ds0, p0, q0, hargs, rfl, rfl, h0, r0⟩ := trodAll_cons hA
  obtain ⟨rfl, rfl, rfl⟩ := trodAll_nil r0
  obtain ⟨rfl, rfl⟩ := trodVars_none hV
  obtain rfl : args = [v0].toArray := by cases args; simp_all
  obtain ⟨s0, rfl, z0⟩ := open_string Tryz.underlying9 (hval 0 _ v0 rfl rfl) h0
  obtain ⟨ty0, fr0, eG0⟩ := Qku (nm := "internal/strconv.uint64pow10") (k := .u64) (zs := Lib.pow10Tab) (g := 0) (t := 152) (e := 136) (n := 20) (by kernel_rfl) (by kernel_rfl) Tryz.underlying152 Tryz.underlying136 (by kernel_rfl) (by kernel_rfl) (QeL hL (by kernel_rfl))
  obtain ⟨uE1, wE1, ty1, fr1, eG1⟩ := QeH (nm := "strconv.ErrSyntax") (g := 1) (t := 63) (by kernel_rfl) (by kernel_rfl) Tryz.underlying63 (QeL hL (x := ("strconv.ErrSyntax", Rows.laid_strconv_ErrSyntax)) (by kernel_rfl))
  obtain ⟨uE2, wE2, ty2, fr2, eG2⟩ := QeH (nm := "strconv.ErrRange") (g := 2) (t := 63) (by kernel_rfl) (by kernel_rfl) Tryz.underlying63 (QeL hL (x := ("strconv.ErrRange", Rows.laid_strconv_ErrRange)) (by kernel_rfl))
  have hwG : ∀ x ∈ ([⟨0, tabC, ty0, fr0⟩, ⟨1, #[.iface uE1 wE1], ty1, fr1⟩, ⟨2, #[.iface uE2 wE2], ty2, fr2⟩] : List GV), W.heap[x.g]? = some (.cells x.cs x.ty x.fr) := by
    intro x hx
    simp only [List.mem_cons, List.not_mem_nil, or_false] at hx
    rcases hx with rfl | rfl | rfl
    · exact eG0
    · exact eG1
    · exact eG2
  refine (Qh4 hwG (show ([0, 1, 2] : List Nat).Nodup by decide) (Qjn s0 (Ql9 z0) _ ⟨⟨0, ty0, fr0, rfl⟩, ⟨uE1, wE1, 1, ty1, fr1, rfl⟩, uE2, wE2, 2, ty2, fr2, rfl⟩) (Qh6 (Qjt (.v _) (QkZ _)))).mono fun e W' ⟨he, hb⟩ => ?_
  subst he
  exact ⟨_, rfl, Qid (by kernel_rfl) rfl rfl Tryz.underlying4 (by rw [Tryz.params5]; intro t ht; simp at ht; rcases ht with rfl <;> exact ⟨by kernel_rfl, by decide +kernel⟩) hW' rfl hb⟩
theorem parses_row : Rows.TermtextParsesSaid :=
  OpenClaim.holds_of_wide 5 Tryz.f5 rfl rfl rfl rfl rfl rfl rfl ⟨rfl, rfl, rfl, rfl, rfl⟩ rfl rfl rfl rfl rfl (by kernel_rfl) Tryz.func5 (by kernel_rfl)
    (of_decide_eq_true (by kernel_rfl)) (by unfold Func.isWrapper; first | (rw [if_pos (by decide +kernel)]; kernel_rfl) | (rw [if_neg (by decide +kernel)]; exact ⟨rfl, rfl⟩))
    (fun os started H enc _ => parses_lifted os started H enc)
theorem parses_holds : Rows.TermtextParsesCardSaid :=
  Claim7.holds_tied_plain_at .later [] [.data, .data, .data, .data, .sentinel, .sentinel, .pinned] true Rows.termtextParsesCard.stood.harness true
    parses_row (fun _ h => by cases h) (by kernel_rfl) (fun _ h => by cases h) termtextParses_row_tie rfl ⟨rfl, rfl⟩ (by kernel_rfl) rfl
    (fun f fn hf hfn => by
      obtain rfl : f = 5 := Option.some.inj ((show Tryz.prog.funcNamed Rows.termtextParsesRow.func = some 5 by kernel_rfl).symm.trans hf) |>.symm
      obtain rfl : fn = Tryz.f5 := (Option.some.inj (Tryz.func5.symm.trans hfn)).symm
      exact ⟨by kernel_rfl, fun j t ht => by
        rw [Tryz.params5] at ht
        have hm : t ∈ [9] := by simpa using Array.mem_of_getElem? ht
        have hall : ([9].all fun u => !Tryz.prog.wantsStandIn u) = true := by kernel_rfl
        exact (show Tryz.prog.wantsStandIn t = false by simpa using List.all_eq_true.1 hall t hm)⟩)
    (by kernel_rfl)
end Go.Proofs.YtehjodmnajgdgaaGreatDoor
