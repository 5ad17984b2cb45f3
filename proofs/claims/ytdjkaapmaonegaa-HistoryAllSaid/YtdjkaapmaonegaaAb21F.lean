/-
  HistoryAll returns true for every list and every entry, and its input reads as before.
-/
import Derived.Test.YtdjkaapmaonegaaAb21v
import Derived.Test.YtdjkaapmaonegaaAb21w
import Derived.Test.YtdjkaapmaonegaaRows
set_option linter.unusedVariables false
set_option maxHeartbeats 4000000
namespace Go.Proofs.Ytdjkaapmaonegaa
open Go.ChangeShapes Go.WideShapes Go.ChangeAt Go.RowKit Go.Proofs.Ytdjkaapmaonegaa.Ab

set_option maxRecDepth 100000 in
theorem all_lifted (os : Os) (started : os.Started) (H : Type) (enc : TypeId × Value → H) :
    ReturnsInHanded {} Try.checked os 6 .any (Rows.historyAllSpec.pre6 enc Try.prog Try.f6 Rows.historyAllRow.domain false) (Rows.historyAllSpec.post enc Try.prog Try.f6 false true false false) := by
  refine returnsInHanded_of_change (C := Try.checked) (by kernel_rfl) started (by kernel_rfl) Try.func6
    (ChangeSpec.witness6 (enc := enc) (C := Try.checked) false ⟨#[], #[.slice none 0 0, .agg #[.int .i64 0, .slice none 0 0]], []⟩ 8 (by kernel_rfl) (by kernel_rfl) (by kernel_rfl) (by kernel_rfl)) ?_
  intro W base args ds gs before hval0 hW hcnd _
  have hval : ∀ (j : Nat) t v, Try.f6.params[j]? = some t → args[j]? = some v → Value.okWide Try.prog W .any base t v := hval0
  have hW' := hW
  obtain ⟨p, q, hA0, hV, rfl, hfz, hnd⟩ := hW
  have hA : DataW.TrodAll enc Try.prog W 0 (fun _ => true) true Try.f6.params.toList args.toList ds p := hA0
  rw [Try.params6] at hA hval
  obtain ⟨v0, vs0, d0, ds0, p0, q0, hargs, rfl, rfl, h0, r0⟩ := trodAll_cons hA
  obtain ⟨v1, vs1, d1, ds1, p1, q1, rfl, rfl, rfl, h1, r1⟩ := trodAll_cons r0
  obtain ⟨rfl, rfl, rfl⟩ := trodAll_nil r1
  obtain ⟨rfl, rfl⟩ := trodVars_none hV
  obtain rfl : args = [v0, v1].toArray := by cases args; simp_all
  obtain ⟨l0, g0, e0⟩ := open_rows (val := F.av) (Good := F.good) (s := 2) Try.underlying22 (by kernel_rfl) (by omega) (fun t => rfl) (hval 0 _ v0 rfl rfl) h0 (read_F enc W)
  have e0 : Rel _ (.sl 2 (favs l0) none) v0 := e0
  have n0 : l0.length ≤ 9223372036854775807 := by have := rel_sl_len e0; rwa [favs_length] at this
  obtain ⟨t1, o1, e1⟩ := open_agg (val := F.av) (Good := F.good) Try.underlying27 (hval 1 _ v1 rfl rfl) h1 (fun t => ⟨_, rfl⟩) (read_F enc W)
  refine (law_calls (lawAll_pure l0 t1 (fits_of g0) n0 o1 []) (relL_cons e0 (relL_cons e1 (relL_nil _)))).mono fun e W' ⟨he, hb⟩ => ?_
  subst he
  exact ⟨_, rfl, post_below (by kernel_rfl) rfl rfl Try.underlying4 (by rw [Try.params6]; intro t ht; simp at ht; rcases ht with rfl | rfl <;> exact ⟨by kernel_rfl, by decide +kernel⟩) hW' rfl hb⟩

theorem all_holds : Rows.HistoryAllSaid :=
  OpenClaim.holds_of_wide 6 Try.f6 rfl rfl rfl rfl rfl rfl rfl ⟨rfl, rfl, rfl, rfl, rfl⟩ rfl rfl rfl rfl rfl (by kernel_rfl) Try.func6 (by kernel_rfl)
    (of_decide_eq_true (by kernel_rfl)) (by unfold Func.isWrapper; first | (rw [if_pos (by decide +kernel)]; kernel_rfl) | (rw [if_neg (by decide +kernel)]; exact ⟨rfl, rfl⟩))
    (fun os started H enc _ => all_lifted os started H enc)
end Go.Proofs.Ytdjkaapmaonegaa
