/-
  Unique computes uniqueB, in the specification.
-/
import Derived.Test.YtoccpldnegloaaaAbD6
set_option linter.unusedSimpArgs false
set_option linter.unusedVariables false
set_option maxHeartbeats 4000000
set_option maxRecDepth 4000
-- @lean
namespace Go.Proofs.Ytoccpldnegloaaa.Ab
open Go.Proofs

theorem refUnique_pure (keys : List Ky) (name : ByteArray) (ps : List Int) (hb : keys.length ≤ 1000000) (hp : ps.length ≤ 1000000) (hk : ∀ k ∈ keys, k.pos.length ≤ 1000000) :
    Pure Try.prog 14 [.sl 3 (vs Ky.av keys) none, .v (.string name), .sl 1 (ints ps) none] (.b (uniqueB keys name ps)) := by
  intro h
  refine callW_of_body Try.func14 rfl Try.call14 Try.ntmps14 (congrArg Array.toList Try.results14) (by simp) ?_
  repeat (first | ((first | (with_reducible refine codeW_seq_region (fun K E hK hE => ?_)) | (with_reducible refine codeW_region_k (fun K E hK hE => ?_))); simp -implicitDefEqProofs only [opsW_nil, opsW_cons, awanted, OpW, aop, AS.ev, put_some, ofV_int, ofV_bool, Nat.reduceLT]) | (with_reducible refine codeW_seq_k (fun K hK => ?_)) | (with_reducible refine codeW_block ?_) | (with_reducible refine codeW_ret ?_) | (with_reducible refine codeW_label ?_) | (with_reducible refine codeW_scope ?_) | (with_reducible refine codeW_skip ?_) | (with_reducible refine codeW_exit ?_) | (with_reducible refine to_then_normal ?_) | (with_reducible refine to_then_ret ?_) | (with_reducible refine to_then_exit ?_) | (with_reducible refine to_block_normal ?_) | (with_reducible refine to_block_ret ?_) | (with_reducible refine to_block_hit ?_) | (with_reducible refine to_block_miss rfl ?_) | ((with_reducible refine hK _ ?_); clear hK) | (clear hK; (with_reducible refine hK _ ?_); clear hK) | (clear hK; clear hK; (with_reducible refine hK _ ?_); clear hK) | (clear hK; clear hK; clear hK; (with_reducible refine hK _ ?_); clear hK) | (refine codeW_cond rfl ?_; simp only [↓reduceIte, Bool.false_eq_true]) | (intro (b : Bool); cases b))
  obtain ⟨I, hI⟩ : ∃ I : Nat → AS → Prop, I = fun m' s => ∃ (j : Nat), m' = keys.length - j ∧ j ≤ keys.length ∧ uniqueB keys name ps = uniqueB (keys.drop j) name ps ∧ s.tm 0 = .sl 3 (vs Ky.av keys) none ∧ s.tm 1 = .v (.string name) ∧ s.tm 2 = .sl 1 (ints ps) none ∧ s.tm 7 = .i j ∧ s.h = h := ⟨_, rfl⟩; refine codeW_loop I ?_ (m := keys.length) ?_
  · intro m' s hs; rw [hI] at hs; obtain ⟨tm, hp⟩ := s; dsimp only at hs; obtain ⟨j, rfl, hj, he, t0, t1, t2, t7, rfl⟩ := hs
    by_cases hlt : j < keys.length
    · rw [List.drop_eq_getElem_cons hlt, uniqueB_cons] at he
      have hkl := hk _ (List.getElem_mem hlt)
      generalize hd : ((keys[j]).name.toList == name.toList) = d1
      have hu : uniqueK name ps keys[j] = (d1 && (keys[j]).pos.all fun n => decide (n ∈ ps)) := by rw [uniqueK, hd]
      repeat (first | ((first | (with_reducible refine codeW_seq_region (fun K E hK hE => ?_)) | (with_reducible refine codeW_region_k (fun K E hK hE => ?_))); simp -implicitDefEqProofs only [opsW_nil, opsW_cons, awanted, OpW, aop, AS.ev, put_some, ofV_int, upd_at, ↓reduceIte, Nat.reduceLT, Nat.reduceEqDiff, Nat.add_zero, and_self, aFieldAddr, aLoad, aPart, aIndexAddr, aBin, aLen, List.getElem?_cons_zero, Option.map_some, pv_lss, pv_seql, goInt, decide_true, Int.toNat_natCast, Int.natCast_nonneg, Int.ofNat_lt, ti9, fi30_0, ei38, un38, t0, t1, t7, hlt, vs_length, vs_get Ky.av hlt, Ky.cells, hd]) | (with_reducible refine codeW_seq_k (fun K hK => ?_)) | (with_reducible refine codeW_block ?_) | (with_reducible refine codeW_ret ?_) | (with_reducible refine codeW_label ?_) | (with_reducible refine codeW_scope ?_) | (with_reducible refine codeW_skip ?_) | (with_reducible refine codeW_exit ?_) | (with_reducible refine to_then_normal ?_) | (with_reducible refine to_then_ret ?_) | (with_reducible refine to_then_exit ?_) | (with_reducible refine to_block_normal ?_) | (with_reducible refine to_block_ret ?_) | (with_reducible refine to_block_hit ?_) | (with_reducible refine to_block_miss rfl ?_) | ((with_reducible refine hK _ ?_); clear hK) | (clear hK; (with_reducible refine hK _ ?_); clear hK) | (clear hK; clear hK; (with_reducible refine hK _ ?_); clear hK) | (clear hK; clear hK; clear hK; (with_reducible refine hK _ ?_); clear hK) | (refine codeW_cond rfl ?_; simp only [↓reduceIte]) | (intro (b : Bool); cases b))
      have hI0 := hI
      obtain ⟨I, hI⟩ : ∃ I : Nat → AS → Prop, I = fun m' s => ∃ (k : Nat), m' = (keys[j]).pos.length - k ∧ k ≤ (keys[j]).pos.length ∧ s.tm 0 = .sl 3 (vs Ky.av keys) none ∧ s.tm 1 = .v (.string name) ∧ s.tm 2 = .sl 1 (ints ps) none ∧ s.tm 7 = .i j ∧ s.tm 8 = .b (d1 && ((keys[j]).pos.take k).all fun n => decide (n ∈ ps)) ∧ s.tm 9 = .i k ∧ s.h = hp := ⟨_, rfl⟩; refine codeW_loop I ?_ (m := (keys[j]).pos.length) ?_
      · intro m' s hs; rw [hI] at hs; obtain ⟨tm, hp⟩ := s; dsimp only at hs; obtain ⟨k, rfl, hk', t0, t1, t2, t7, t8, t9, rfl⟩ := hs
        by_cases hlt2 : k < (keys[j]).pos.length
        · have hta : ((keys[j]).pos.take (k + 1)).all (fun n => decide (n ∈ ps)) = (((keys[j]).pos.take k).all (fun n => decide (n ∈ ps)) && decide ((keys[j]).pos[k] ∈ ps)) := by
            rw [List.take_succ_eq_append_getElem hlt2, List.all_append]; simp
          have c := refInK_pure ps (keys[j]).pos[k] (by assumption)
          cases hacc : (d1 && ((keys[j]).pos.take k).all fun n => decide (n ∈ ps)) with
          | true =>
            rw [hacc] at t8
            repeat (first | ((first | (with_reducible refine codeW_seq_region (fun K E hK hE => ?_)) | (with_reducible refine codeW_region_k (fun K E hK hE => ?_)) | (with_reducible refine funW_pure c ?_) | (with_reducible refine callA_pure c ?_)); simp -implicitDefEqProofs only [opsW_nil, opsW_cons, awanted, OpW, contW, aop, AS.ev, put_some, ofV_int, upd_at, cells_v, ↓reduceIte, Nat.reduceLT, Nat.reduceEqDiff, Nat.zero_add, and_self, aFieldAddr, aLoad, aPart, aIndexAddr, aBin, aLen, List.getElem?_cons_zero, List.getElem?_cons_succ, Option.map_some, Option.bind_some, List.getElem?_toArray, List.map_cons, List.map_nil, pv_lss, pv_add, goInt, decide_true, beq_self_eq_true, Int.toNat_natCast, Int.natCast_nonneg, Int.ofNat_lt, ints_length, ti3, ti28, ei28, un28, fi30_2, ei38, t0, t2, t7, t8, t9, hlt, hlt2, vs_length, vs_get Ky.av hlt, Ky.cells, ints_get hlt2]) | (with_reducible refine codeW_seq_k (fun K hK => ?_)) | (with_reducible refine codeW_block ?_) | (with_reducible refine codeW_ret ?_) | (with_reducible refine codeW_label ?_) | (with_reducible refine codeW_scope ?_) | (with_reducible refine codeW_skip ?_) | (with_reducible refine codeW_exit ?_) | (with_reducible refine to_then_normal ?_) | (with_reducible refine to_then_ret ?_) | (with_reducible refine to_then_exit ?_) | (with_reducible refine to_block_normal ?_) | (with_reducible refine to_block_ret ?_) | (with_reducible refine to_block_hit ?_) | (with_reducible refine to_block_miss rfl ?_) | ((with_reducible refine hK _ ?_); clear hK) | (clear hK; (with_reducible refine hK _ ?_); clear hK) | (clear hK; clear hK; (with_reducible refine hK _ ?_); clear hK) | (clear hK; clear hK; clear hK; (with_reducible refine hK _ ?_); clear hK) | (refine codeW_cond rfl ?_; simp only [↓reduceIte]) | (intro (b : Bool); cases b))
            refine Onward.mk (m' := (keys[j]).pos.length - (k + 1)) (by omega) ?_
            rw [hI]
            refine ⟨k + 1, rfl, hlt2, t0, t1, t2, t7, ?_, ?_, rfl⟩
            · simp only [upd, ↓reduceIte, Nat.reduceEqDiff]
              rw [hta, ← Bool.and_assoc, hacc, Bool.true_and]
            · simp only [upd, ↓reduceIte]
              rw [wrap_nat (by omega)]
          | false =>
            rw [hacc] at t8
            repeat (first | ((first | (with_reducible refine codeW_seq_region (fun K E hK hE => ?_)) | (with_reducible refine codeW_region_k (fun K E hK hE => ?_)) | (with_reducible refine funW_pure c ?_) | (with_reducible refine callA_pure c ?_)); simp -implicitDefEqProofs only [opsW_nil, opsW_cons, awanted, OpW, aop, undef, AS.ev, put_some, ofV_int, ofV_bool, upd_at, ↓reduceIte, Nat.reduceLT, Nat.reduceEqDiff, Nat.zero_add, and_self, aFieldAddr, aLoad, aPart, aIndexAddr, aBin, aLen, List.getElem?_cons_zero, List.getElem?_cons_succ, Option.map_some, Option.bind_some, List.getElem?_toArray, pv_lss, pv_add, goInt, decide_true, Int.toNat_natCast, Int.natCast_nonneg, Int.ofNat_lt, Bool.false_eq_true, beq_true, ints_length, ti28, un28, fi30_2, ei38, t0, t7, t8, t9, hlt, hlt2, vs_length, vs_get Ky.av hlt, Ky.cells]) | (with_reducible refine codeW_seq_k (fun K hK => ?_)) | (with_reducible refine codeW_block ?_) | (with_reducible refine codeW_ret ?_) | (with_reducible refine codeW_label ?_) | (with_reducible refine codeW_scope ?_) | (with_reducible refine codeW_skip ?_) | (with_reducible refine codeW_exit ?_) | (with_reducible refine to_then_normal ?_) | (with_reducible refine to_then_ret ?_) | (with_reducible refine to_then_exit ?_) | (with_reducible refine to_block_normal ?_) | (with_reducible refine to_block_ret ?_) | (with_reducible refine to_block_hit ?_) | (with_reducible refine to_block_miss rfl ?_) | ((with_reducible refine hK _ ?_); clear hK) | (clear hK; (with_reducible refine hK _ ?_); clear hK) | (clear hK; clear hK; (with_reducible refine hK _ ?_); clear hK) | (clear hK; clear hK; clear hK; (with_reducible refine hK _ ?_); clear hK) | (refine codeW_cond rfl ?_; simp only [↓reduceIte]) | (intro (b : Bool); cases b))
            refine Onward.mk (m' := (keys[j]).pos.length - (k + 1)) (by omega) ?_
            rw [hI]
            refine ⟨k + 1, rfl, hlt2, t0, t1, t2, t7, ?_, ?_, rfl⟩
            · simp only [upd, ↓reduceIte, Nat.reduceEqDiff]
              rw [hta, ← Bool.and_assoc, hacc, Bool.false_and]
            · simp only [upd, ↓reduceIte]
              rw [wrap_nat (by omega)]
        · have hkl2 : k = (keys[j]).pos.length := by omega
          rw [hkl2, List.take_length, ← hu] at t8
          cases hw : uniqueK name ps keys[j] with
          | true =>
            rw [hw] at t8
            rw [hw, Bool.true_or] at he
            repeat (first | ((first | (with_reducible refine codeW_seq_region (fun K E hK hE => ?_)) | (with_reducible refine codeW_region_k (fun K E hK hE => ?_))); simp -implicitDefEqProofs only [opsW_nil, opsW_cons, awanted, OpW, aop, AS.ev, put_some, ofV_bool, upd_at, ↓reduceIte, Nat.reduceLT, Nat.reduceEqDiff, Nat.zero_add, and_self, aFieldAddr, aLoad, aPart, aIndexAddr, aBin, aLen, List.getElem?_cons_zero, List.getElem?_cons_succ, Option.map_some, pv_lss, goInt, decide_false, Int.toNat_natCast, Int.natCast_nonneg, Int.ofNat_lt, ints_length, ti28, un28, fi30_2, ei38, t0, t7, t8, t9, hlt, hlt2, vs_length, vs_get Ky.av hlt, Ky.cells]) | (with_reducible refine codeW_seq_k (fun K hK => ?_)) | (with_reducible refine codeW_block ?_) | (with_reducible refine codeW_ret ?_) | (with_reducible refine codeW_label ?_) | (with_reducible refine codeW_scope ?_) | (with_reducible refine codeW_skip ?_) | (with_reducible refine codeW_exit ?_) | (with_reducible refine to_then_normal ?_) | (with_reducible refine to_then_ret ?_) | (with_reducible refine to_then_exit ?_) | (with_reducible refine to_block_normal ?_) | (with_reducible refine to_block_ret ?_) | (with_reducible refine to_block_hit ?_) | (with_reducible refine to_block_miss rfl ?_) | ((with_reducible refine hK _ ?_); clear hK) | (clear hK; (with_reducible refine hK _ ?_); clear hK) | (clear hK; clear hK; (with_reducible refine hK _ ?_); clear hK) | (clear hK; clear hK; clear hK; (with_reducible refine hK _ ?_); clear hK) | (refine codeW_cond rfl ?_; simp only [↓reduceIte, Bool.false_eq_true]) | (intro (b : Bool); cases b))
            simp only [BodyQ, aResults, aResult, upd, ↓reduceIte, Option.some.injEq, exists_eq_left']
            exact leaves_end List.take_length (.keep (.v _)) ⟨by rw [he], rfl⟩
          | false =>
            rw [hw] at t8
            rw [hw, Bool.false_or] at he
            repeat (first | ((first | (with_reducible refine codeW_seq_region (fun K E hK hE => ?_)) | (with_reducible refine codeW_region_k (fun K E hK hE => ?_))); simp -implicitDefEqProofs only [opsW_nil, opsW_cons, awanted, OpW, aop, AS.ev, put_some, ofV_int, upd_at, ↓reduceIte, Nat.reduceLT, Nat.reduceEqDiff, Nat.zero_add, and_self, aFieldAddr, aLoad, aPart, aIndexAddr, aBin, aLen, List.getElem?_cons_zero, List.getElem?_cons_succ, Option.map_some, pv_lss, pv_add, goInt, decide_false, Int.toNat_natCast, Int.natCast_nonneg, Int.ofNat_lt, ints_length, ti28, un28, fi30_2, ei38, t0, t7, t8, t9, hlt, hlt2, vs_length, vs_get Ky.av hlt, Ky.cells]) | (with_reducible refine codeW_seq_k (fun K hK => ?_)) | (with_reducible refine codeW_block ?_) | (with_reducible refine codeW_ret ?_) | (with_reducible refine codeW_label ?_) | (with_reducible refine codeW_scope ?_) | (with_reducible refine codeW_skip ?_) | (with_reducible refine codeW_exit ?_) | (with_reducible refine to_then_normal ?_) | (with_reducible refine to_then_ret ?_) | (with_reducible refine to_then_exit ?_) | (with_reducible refine to_block_normal ?_) | (with_reducible refine to_block_ret ?_) | (with_reducible refine to_block_hit ?_) | (with_reducible refine to_block_miss rfl ?_) | ((with_reducible refine hK _ ?_); clear hK) | (clear hK; (with_reducible refine hK _ ?_); clear hK) | (clear hK; clear hK; (with_reducible refine hK _ ?_); clear hK) | (clear hK; clear hK; clear hK; (with_reducible refine hK _ ?_); clear hK) | (refine codeW_cond rfl ?_; simp only [↓reduceIte, Bool.false_eq_true]) | (intro (b : Bool); cases b))
            refine Onward.mk (m' := keys.length - (j + 1)) (by omega) ?_
            rw [hI0]
            refine ⟨j + 1, rfl, hlt, he, t0, t1, t2, ?_, rfl⟩
            simp only [upd, ↓reduceIte]
            rw [wrap_nat (by omega)]
      · rw [hI]
        exact ⟨0, by omega, Nat.zero_le _, t0, t1, t2, t7, by simp [upd], rfl, rfl⟩
    · have hjl : keys.drop j = [] := List.drop_eq_nil_of_le (by omega)
      rw [hjl] at he
      repeat (first | ((first | (with_reducible refine codeW_seq_region (fun K E hK hE => ?_)) | (with_reducible refine codeW_region_k (fun K E hK hE => ?_))); simp -implicitDefEqProofs only [opsW_nil, opsW_cons, awanted, OpW, aop, AS.ev, put_some, ofV_bool, upd_at, ↓reduceIte, Nat.reduceLT, Nat.reduceEqDiff, aBin, aLen, Option.map_some, pv_lss, goInt, decide_false, Int.ofNat_lt, un38, t0, t7, hlt, vs_length]) | (with_reducible refine codeW_seq_k (fun K hK => ?_)) | (with_reducible refine codeW_block ?_) | (with_reducible refine codeW_ret ?_) | (with_reducible refine codeW_label ?_) | (with_reducible refine codeW_scope ?_) | (with_reducible refine codeW_skip ?_) | (with_reducible refine codeW_exit ?_) | (with_reducible refine to_then_normal ?_) | (with_reducible refine to_then_ret ?_) | (with_reducible refine to_then_exit ?_) | (with_reducible refine to_block_normal ?_) | (with_reducible refine to_block_ret ?_) | (with_reducible refine to_block_hit ?_) | (with_reducible refine to_block_miss rfl ?_) | ((with_reducible refine hK _ ?_); clear hK) | (clear hK; (with_reducible refine hK _ ?_); clear hK) | (clear hK; clear hK; (with_reducible refine hK _ ?_); clear hK) | (clear hK; clear hK; clear hK; (with_reducible refine hK _ ?_); clear hK) | (refine codeW_cond rfl ?_; simp only [↓reduceIte, Bool.false_eq_true]) | (intro (b : Bool); cases b))
      simp only [BodyQ, aResults, aResult, upd, ↓reduceIte, Option.some.injEq, exists_eq_left']
      exact leaves_end List.take_length (.keep (.v _)) ⟨by rw [he]; rfl, rfl⟩
  · rw [hI]
    exact ⟨0, by omega, Nat.zero_le _, by rw [List.drop_zero], rfl, rfl, rfl, rfl, rfl⟩
end Go.Proofs.Ytoccpldnegloaaa.Ab
