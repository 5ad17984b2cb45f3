/-
  SyntaxSpaces returns true for all texts and seeds, and its inputs read as before; the package-level variables start as the program's text lays them.
-/
import Derived.Test.YticgcpebdldbgaaDoorAbSix
import Derived.Test.YticgcpebdldbgaaDoorRows
import Derived.Test.YticgcpebdldbgaaDoorCards
import Derived.Test.YticgcpebdldbgaaDoorTie
import Derived.SevenTiedAt
import Derived.LaidMore
import Derived.LaidHandle
import Derived.Stop.Joined
set_option linter.unusedVariables false
set_option linter.unusedSimpArgs false
set_option maxHeartbeats 4000000
namespace Go.Proofs.YticgcpebdldbgaaDoor
open Go Go.ChangeShapes Go.WideShapes Go.ChangeAt Go.RowKit Go.Proofs.YticgcpebdldbgaaDoor.Ab
theorem spaces_door (os : Os) (args : Array Value) : laidMetH Tryd.prog Rows.syntaxSpacesRow.laid ((World.doorLaid Tryd.prog 400 os).forCall (fun _ _ => 0) ⟨#[], args, []⟩).memory :=
  laidMetH_of_parts3 (fuel := 8) (laidMet_of_run' 8 (by kernel_rfl) (by kernel_rfl)) (by kernel_rfl) (by kernel_rfl)
set_option maxRecDepth 100000 in
theorem spaces_lifted (os : Os) (started : os.Started) (H : Type) (enc : TypeId × Value → H) :
    ReturnsInHanded {} Tryd.checked os 4 .any (fun w args => (Rows.syntaxSpacesSpec.pre enc Tryd.prog Tryd.f4 [] false w args ∧ laidMetH Tryd.prog Rows.syntaxSpacesRow.laid w) ∧ sizedMet enc Tryd.prog Tryd.f4 (OpenSpec.ofChange Rows.syntaxSpacesSpec) false w args)
      (Rows.syntaxSpacesSpec.post enc Tryd.prog Tryd.f4 false true false false) := by
  refine returnsInHanded_of_change_and (C := Tryd.checked) (X := fun w _ => laidMetH Tryd.prog Rows.syntaxSpacesRow.laid w) (fun _ _ _ hh h => h.of_heap hh) (by kernel_rfl) started (by kernel_rfl) Tryd.func4
    (ChangeSpec.witness_shaped (enc := enc) (C := Tryd.checked) (os := os) (X := fun w _ => laidMetH Tryd.prog Rows.syntaxSpacesRow.laid w) false (World.doorLaid Tryd.prog 400 os) #[.string ⟨#[]⟩, .int .u64 0] 8 rfl (World.shaped_of_RefB (by kernel_rfl) (by kernel_rfl)) (by kernel_rfl) (by kernel_rfl) (by kernel_rfl) (spaces_door os _)) ?_
  intro W base args ds gs before hval0 hW _ _ hL _
  have hval : ∀ (j : Nat) t v, Tryd.f4.params[j]? = some t → args[j]? = some v → Value.okWide Tryd.prog W .any base t v := hval0
  have hW' := hW
  obtain ⟨p, q, hA0, hV, rfl, hfz, hnd⟩ := hW
  have hA : DataW.TrodAll enc Tryd.prog W 0 (fun _ => true) true Tryd.f4.params.toList args.toList ds p := hA0
  rw [Tryd.params4] at hA hval
  obtain ⟨v0, vs0, d0, ds0, p0, q0, hargs, rfl, rfl, h0, r0⟩ := trodAll_cons hA
  obtain ⟨v1, vs1, d1, ds1, p1, q1, rfl, rfl, rfl, h1, r1⟩ := trodAll_cons r0
  obtain ⟨rfl, rfl, rfl⟩ := trodAll_nil r1
  obtain ⟨rfl, rfl⟩ := trodVars_none hV
  obtain rfl : args = [v0, v1].toArray := by cases args; simp_all
  obtain ⟨s0, rfl, z0⟩ := open_string Tryd.underlying9 (hval 0 _ v0 rfl rfl) h0
  obtain ⟨k1, rfl, _, _, u1⟩ := open_int Tryd.underlying36 (hval 1 _ v1 rfl rfl) h1
  obtain ⟨ty0, fr0, eT⟩ := QlN (nm := "constraint/token.symbols") (zs := Xn) (g := 0) (t := 141) (e := 9) (n := 23) (by kernel_rfl) (by kernel_rfl) Tryd.underlying141 Tryd.underlying9 (by kernel_rfl) (by kernel_rfl) (Qny hL (by kernel_rfl))
  have hwG : ∀ x ∈ ([⟨0, symC, ty0, fr0⟩] : List GV), W.heap[x.g]? = some (.cells x.cs x.ty x.fr) := by
    intro x hx
    rw [List.mem_singleton.1 hx]
    exact eT
  refine (Qj2 hwG (show ([0] : List Nat).Nodup by decide) (QpQ s0 k1 z0 _ ⟨0, ty0, fr0, rfl⟩) (Qkn (Qhz (.v _) (Qhz (.v _) (QnU _))))).mono fun e W' ⟨he, hb⟩ => ?_
  subst he
  exact ⟨_, rfl, Qkj (by kernel_rfl) rfl rfl Tryd.underlying4 (by rw [Tryd.params4]; intro t ht; simp at ht; rcases ht with rfl | rfl <;> exact ⟨by kernel_rfl, by decide +kernel⟩) hW' rfl hb⟩
theorem spaces_row : Rows.SyntaxSpacesSaid :=
  OpenClaim.holds_of_wide 4 Tryd.f4 rfl rfl rfl rfl rfl rfl rfl ⟨rfl, rfl, rfl, rfl, rfl⟩ rfl rfl rfl rfl rfl (by kernel_rfl) Tryd.func4 (by kernel_rfl)
    (of_decide_eq_true (by kernel_rfl)) (by unfold Func.isWrapper; first | (rw [if_pos (by decide +kernel)]; kernel_rfl) | (rw [if_neg (by decide +kernel)]; exact ⟨rfl, rfl⟩))
    (fun os started H enc _ => spaces_lifted os started H enc)
theorem spaces_holds : Rows.SyntaxSpacesCardSaid :=
  Claim7.holds_tied_plain_at .later [] [.data] true Rows.syntaxSpacesCard.stood.harness true
    spaces_row (fun _ h => by cases h) (by kernel_rfl) (fun _ h => by cases h) syntaxSpaces_row_tie rfl ⟨rfl, rfl⟩ (by kernel_rfl) rfl
    (fun f fn hf hfn => by
      obtain rfl : f = 4 := Option.some.inj ((show Tryd.prog.funcNamed Rows.syntaxSpacesRow.func = some 4 by kernel_rfl).symm.trans hf) |>.symm
      obtain rfl : fn = Tryd.f4 := (Option.some.inj (Tryd.func4.symm.trans hfn)).symm
      exact ⟨by kernel_rfl, fun j t ht => by
        rw [Tryd.params4] at ht
        have hm : t ∈ [9, 36] := by simpa using Array.mem_of_getElem? ht
        have hall : ([9, 36].all fun u => !Tryd.prog.wantsStandIn u) = true := by kernel_rfl
        exact (show Tryd.prog.wantsStandIn t = false by simpa using List.all_eq_true.1 hall t hm)⟩)
    (by kernel_rfl)
end Go.Proofs.YticgcpebdldbgaaDoor

