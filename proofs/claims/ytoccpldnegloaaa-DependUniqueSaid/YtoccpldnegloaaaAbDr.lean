/-
  DependUnique returns true for all keys, every name and all positions, and its input reads as before.
-/
import Derived.Test.YtoccpldnegloaaaAbDp
import Derived.Test.YtoccpldnegloaaaRows
set_option linter.unusedVariables false
set_option maxHeartbeats 4000000
namespace Go.Proofs.Ytoccpldnegloaaa
open Go.ChangeShapes Go.WideShapes Go.ChangeAt Go.RowKit Go.Proofs.Ytoccpldnegloaaa.Ab

set_option maxRecDepth 100000 in
theorem unique_lifted (os : Os) (started : os.Started) (H : Type) (enc : TypeId × Value → H) :
    ReturnsInHanded {} Try.checked os 4 .any (Rows.dependUniqueSpec.pre6 enc Try.prog Try.f4 Rows.dependUniqueRow.domain false) (Rows.dependUniqueSpec.post enc Try.prog Try.f4 false true false false) := by
  refine returnsInHanded_of_change (C := Try.checked) (by kernel_rfl) started (by kernel_rfl) Try.func4
    (ChangeSpec.witness6 (enc := enc) (C := Try.checked) false ⟨#[], #[.slice none 0 0, .string ⟨#[]⟩, .slice none 0 0], []⟩ 8 (by kernel_rfl) (by kernel_rfl) (by kernel_rfl) (by kernel_rfl)) ?_
  intro W base args ds gs before hval0 hW hcnd _
  have hval : ∀ (j : Nat) t v, Try.f4.params[j]? = some t → args[j]? = some v → Value.okWide Try.prog W .any base t v := hval0
  have hW' := hW
  obtain ⟨p, q, hA0, hV, rfl, hfz, hnd⟩ := hW
  have hA : DataW.TrodAll enc Try.prog W 0 (fun _ => true) true Try.f4.params.toList args.toList ds p := hA0
  rw [Try.params4] at hA hval
  obtain ⟨v0, vs0, d0, ds0, p0, q0, hargs, rfl, rfl, h0, r0⟩ := trodAll_cons hA
  obtain ⟨v1, vs1, d1, ds1, p1, q1, rfl, rfl, rfl, h1, r1⟩ := trodAll_cons r0
  obtain ⟨v2, vs2, d2, ds2, p2, q2, rfl, rfl, rfl, h2, r2⟩ := trodAll_cons r1
  obtain ⟨rfl, rfl, rfl⟩ := trodAll_nil r2
  obtain ⟨rfl, rfl⟩ := trodVars_none hV
  obtain rfl : args = [v0, v1, v2].toArray := by cases args; simp_all
  obtain ⟨l0, _, e0⟩ := open_rows (val := Ky.av) (Good := fun _ => True) (s := 3) Try.underlying38 (by kernel_rfl) (by omega) (fun t => by rw [Ky.cells]; rfl) (hval 0 _ v0 rfl rfl) h0 (read_Key enc W)
  obtain ⟨s1, rfl, z1⟩ := open_string Try.underlying9 (hval 1 _ v1 rfl rfl) h1
  obtain ⟨l2, _, e2⟩ := open_rows (val := (fun n : Int => AV.v (.int .i64 n))) (Good := fun _ => True) (s := 1) Try.underlying28 (by kernel_rfl) (by omega) (fun t => by rw [Go.Proofs.Ytoccpldnegloaaa.Ab.icells]; rfl) (hval 2 _ v2 rfl rfl) h2 (read_int enc W)
  refine (law_calls (lawUnique l0 s1 l2 []) (relL_cons e0 (relL_cons (.v _) (relL_cons e2 (relL_nil _))))).mono fun e W' ⟨he, hb⟩ => ?_
  subst he
  exact ⟨_, rfl, post_below (by kernel_rfl) rfl rfl Try.underlying4 (by rw [Try.params4]; intro t ht; simp at ht; rcases ht with rfl | rfl | rfl <;> exact ⟨by kernel_rfl, by decide +kernel⟩) hW' rfl hb⟩

theorem unique_holds : Rows.DependUniqueSaid :=
  OpenClaim.holds_of_wide 4 Try.f4 rfl rfl rfl rfl rfl rfl rfl ⟨rfl, rfl, rfl, rfl, rfl⟩ rfl rfl rfl rfl rfl (by kernel_rfl) Try.func4 (by kernel_rfl)
    (of_decide_eq_true (by kernel_rfl)) (by unfold Func.isWrapper; first | (rw [if_pos (by decide +kernel)]; kernel_rfl) | (rw [if_neg (by decide +kernel)]; exact ⟨rfl, rfl⟩))
    (fun os started H enc _ => unique_lifted os started H enc)
end Go.Proofs.Ytoccpldnegloaaa
