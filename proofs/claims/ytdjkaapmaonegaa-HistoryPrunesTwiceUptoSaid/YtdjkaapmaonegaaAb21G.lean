/-
  HistoryPrunesTwice returns true where what it reads is of bulk at most 1048576, and its input reads as before.
-/
import Derived.Test.YtdjkaapmaonegaaAb21z
import Derived.Test.YtdjkaapmaonegaaAb21y
import Derived.Test.YtdjkaapmaonegaaRows
import Derived.JoinedCond
set_option linter.unusedVariables false
set_option maxHeartbeats 4000000
namespace Go.Proofs.Ytdjkaapmaonegaa
open Go.ChangeShapes Go.WideShapes Go.ChangeAt Go.RowKit Go.Proofs.Ytdjkaapmaonegaa.Ab

set_option maxRecDepth 100000 in
theorem twice_lifted (os : Os) (started : os.Started) (H : Type) (enc : TypeId × Value → H) (Fi : Stop.Interp) :
    ReturnsInHanded {} Try.checked os 9 .any ((Rows.OpenSpec.upto Rows.historyPrunesTwiceSpec).pre6 enc Try.prog Try.f9 Rows.historyPrunesTwiceUptoRow.domain false) (((Rows.OpenSpec.upto Rows.historyPrunesTwiceSpec).at Fi).post enc Try.prog Try.f9 false true false false) := by
  refine returnsInHanded_of_cond (C := Try.checked) (k := Rows.uptoSmall) rfl (by kernel_rfl) started (by kernel_rfl) Try.func9
    (OpenSpec.witness (enc := enc) (C := Try.checked) (k := Rows.uptoSmall) rfl false ⟨#[], #[.slice none 0 0, .slice none 0 0, .slice none 0 0], []⟩ 8 (by kernel_rfl) (by kernel_rfl) (by kernel_rfl) (x := ([.nil, .nil, .nil], [], [])) (by kernel_rfl) (by kernel_rfl) (by kernel_rfl)) ?_
  intro W base args ds gs before hval0 hW hcnd hsm _
  have hval : ∀ (j : Nat) t v, Try.f9.params[j]? = some t → args[j]? = some v → Value.okWide Try.prog W .any base t v := hval0
  have hW' := hW
  obtain ⟨p, q, hA0, hV, rfl, hfz, hnd⟩ := hW
  have hA : DataW.TrodAll enc Try.prog W 0 (fun _ => true) true Try.f9.params.toList args.toList ds p := hA0
  rw [Try.params9] at hA hval
  obtain ⟨v0, vs0, d0, ds0, p0, q0, hargs, rfl, rfl, h0, r0⟩ := trodAll_cons hA
  obtain ⟨v1, vs1, d1, ds1, p1, q1, rfl, rfl, rfl, h1, r1⟩ := trodAll_cons r0
  obtain ⟨v2, vs2, d2, ds2, p2, q2, rfl, rfl, rfl, h2, r2⟩ := trodAll_cons r1
  obtain ⟨rfl, rfl, rfl⟩ := trodAll_nil r2
  obtain ⟨rfl, rfl⟩ := trodVars_none hV
  obtain rfl : args = [v0, v1, v2].toArray := by cases args; simp_all
  have hbulk : Rows.uptoBulk d0 ≤ 1048576 := by
    have h := of_decide_eq_true hsm
    simp only [List.append_nil, Rows.uptoBulkAll] at h
    omega
  obtain ⟨l0, g0, e0⟩ := open_rowsP (val := F.av) (Good := fun f => f.ids.length ≤ 1048576) (Pz := fun z => Rows.uptoBulk z ≤ 1048576) (s := 2) Try.underlying22 (by kernel_rfl) (by omega) (fun t => rfl) (hval 0 _ v0 rfl rfl) h0 (fun fu cs y hp hy => read_FB enc W 1048576 fu cs y hp hy)
    (fun es rest hd z hz => by subst hd; exact Nat.le_trans (bulk_slice hz) hbulk)
  have e0 : Rel _ (.sl 2 (favs l0) none) v0 := e0
  have n0 : l0.length ≤ 1048576 := by
    obtain ⟨fu, hf⟩ := h0
    rw [cells_slice Try.underlying22 (hval 0 _ v0 rfl rfl)] at hf
    have := bulk_len Try.underlying22 hf e0
    rw [favs_length] at this
    exact Nat.le_trans this hbulk
  obtain ⟨l1, _, e1⟩ := open_rows (val := fun n : Int => .v (.int .i64 n)) (Good := fun _ => True) (s := 1) Try.underlying25 (by kernel_rfl) (by omega) (fun t => rfl) (hval 1 _ v1 rfl rfl) h1 (read_int enc W)
  have e1 : Rel _ (.sl 1 (ints l1) none) v1 := e1
  obtain ⟨l2, _, e2⟩ := open_rows (val := fun n : Int => .v (.int .i64 n)) (Good := fun _ => True) (s := 1) Try.underlying25 (by kernel_rfl) (by omega) (fun t => rfl) (hval 2 _ v2 rfl rfl) h2 (read_int enc W)
  have e2 : Rel _ (.sl 1 (ints l2) none) v2 := e2
  refine (law_calls (lawTwice_pure l0 l1 l2 g0 n0 []) (relL_cons e0 (relL_cons e1 (relL_cons e2 (relL_nil _))))).mono fun e W' ⟨he, hb⟩ => ?_
  subst he
  exact ⟨_, rfl, post_below (by kernel_rfl) rfl rfl Try.underlying4 (by rw [Try.params9]; intro t ht; simp at ht; rcases ht with rfl | rfl | rfl <;> exact ⟨by kernel_rfl, by decide +kernel⟩) hW' rfl hb⟩

theorem twice_holds : Rows.HistoryPrunesTwiceUptoSaid :=
  OpenClaim.holds_of_cond 9 Try.f9 rfl rfl rfl rfl rfl rfl rfl ⟨rfl, rfl, rfl, rfl, rfl⟩ rfl rfl rfl rfl rfl (by kernel_rfl) Try.func9 (by kernel_rfl)
    (of_decide_eq_true (by kernel_rfl)) (by unfold Func.isWrapper; first | (rw [if_pos (by decide +kernel)]; kernel_rfl) | (rw [if_neg (by decide +kernel)]; exact ⟨rfl, rfl⟩))
    (fun os started H enc _ Fi => twice_lifted os started H enc Fi)
end Go.Proofs.Ytdjkaapmaonegaa
