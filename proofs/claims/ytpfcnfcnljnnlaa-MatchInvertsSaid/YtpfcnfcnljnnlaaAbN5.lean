/-
  The row of the law on what matching inverts.
-/
import Derived.Test.YtpfcnfcnljnnlaaAbMy
import Derived.Test.YtpfcnfcnljnnlaaAbMq
import Derived.Test.YtpfcnfcnljnnlaaRows
set_option linter.unusedVariables false
set_option maxHeartbeats 4000000
namespace Go.Proofs.Ytpfcnfcnljnnlaa
open Go.ChangeShapes Go.WideShapes Go.ChangeAt Go.RowKit Go.Proofs.Ytpfcnfcnljnnlaa.Ab

set_option maxRecDepth 100000 in
theorem inverts_lifted (os : Os) (started : os.Started) (H : Type) (enc : TypeId × Value → H) :
    ReturnsInHanded {} Try.checked os 6 .any (Rows.matchInvertsSpec.pre6 enc Try.prog Try.f6 Rows.matchInvertsRow.domain false) (Rows.matchInvertsSpec.post enc Try.prog Try.f6 false true false false) := by
  refine returnsInHanded_of_change (C := Try.checked) (by kernel_rfl) started (by kernel_rfl) Try.func6
    (ChangeSpec.witness6 (enc := enc) (C := Try.checked) false ⟨#[], #[.slice none 0 0, .agg #[.int .i64 0, .int .i64 0, .string ⟨#[]⟩, .slice none 0 0]], []⟩ 8 (by kernel_rfl) (by kernel_rfl) (by kernel_rfl) (by kernel_rfl)) ?_
  intro W base args ds gs before hval0 hW hcnd _
  have hval : ∀ (j : Nat) t v, Try.f6.params[j]? = some t → args[j]? = some v → Value.okWide Try.prog W .any base t v := hval0
  have hW' := hW
  obtain ⟨p, q, hA0, hV, rfl, hfz, hnd⟩ := hW
  have hA : DataW.TrodAll enc Try.prog W 0 (fun _ => true) true Try.f6.params.toList args.toList ds p := hA0
  rw [Try.params6] at hA hval
  obtain ⟨v0, vs0, d0, ds0, p0, q0, hargs, rfl, rfl, h0, r0⟩ := trodAll_cons hA
  obtain ⟨v1, vs1, d1, ds1, p1, q1, rfl, rfl, rfl, h1, r1⟩ := trodAll_cons r0
  obtain ⟨rfl, rfl, rfl⟩ := trodAll_nil r1
  obtain ⟨rfl, rfl⟩ := trodVars_none hV
  obtain rfl : args = [v0, v1].toArray := by cases args; simp_all
  obtain ⟨l0, o0, e0⟩ := open_rows (val := bav) (Good := fun b => i64 b.1 ∧ b.2.ok) (s := 5) Try.underlying22 (by kernel_rfl) (by omega) (fun t => by rw [bav_cells]; rfl) (hval 0 _ v0 rfl rfl) h0 (read_bind enc W)
  have e0 : Rel _ (.sl 5 (bavs l0) none) v0 := e0
  obtain ⟨t1, o1, e1⟩ := open_agg (val := T.av) (Good := T.ok) Try.underlying25 (hval 1 _ v1 rfl rfl) h1 (fun t => ⟨_, T.av_eta t⟩) (read_term enc W)
  refine (law_calls (lawInverts_pure l0 t1 o0 o1 []) (relL_cons e0 (relL_cons e1 (relL_nil _)))).mono fun e W' ⟨he, hb⟩ => ?_
  subst he
  exact ⟨_, rfl, post_below (by kernel_rfl) rfl rfl Try.underlying4 (by rw [Try.params6]; intro t ht; simp at ht; rcases ht with rfl | rfl <;> exact ⟨by kernel_rfl, by decide +kernel⟩) hW' rfl hb⟩

theorem inverts_holds : Rows.MatchInvertsSaid :=
  OpenClaim.holds_of_wide 6 Try.f6 rfl rfl rfl rfl rfl rfl rfl ⟨rfl, rfl, rfl, rfl, rfl⟩ rfl rfl rfl rfl rfl (by kernel_rfl) Try.func6 (by kernel_rfl)
    (of_decide_eq_true (by kernel_rfl)) (by unfold Func.isWrapper; first | (rw [if_pos (by decide +kernel)]; kernel_rfl) | (rw [if_neg (by decide +kernel)]; exact ⟨rfl, rfl⟩))
    (fun os started H enc _ => inverts_lifted os started H enc)
end Go.Proofs.Ytpfcnfcnljnnlaa
