/-
  Small terms.
-/
import Derived.Test.YtoccpldnegloaaaAbD2
set_option linter.unusedSimpArgs false
set_option linter.unusedVariables false
set_option maxHeartbeats 4000000
set_option maxRecDepth 4000
-- @lean
namespace Go.Proofs.Ytoccpldnegloaaa.Ab
open Go.Proofs

/-! what is left of a budget of nodes -/
def leftsM (w : T → Int → Int) : List T → Int → Int
  | [], n => n
  | t :: l, n => if w t n < 0 then -1 else leftsM w l (w t n)
def leftM : Nat → T → Int → Int
  | 0, _, _ => -1
  | d + 1, t, n => if n - 1 < 0 then -1 else leftsM (leftM d) t.args (n - 1)
theorem leftsM_bound (w : T → Int → Int) (hw : ∀ t n, -1 ≤ n → -1 ≤ w t n ∧ w t n ≤ max n (-1) ∧ (0 ≤ w t n → (t.nds : Int) + w t n ≤ n)) : ∀ (l : List T) (n : Int), -1 ≤ n → -1 ≤ leftsM w l n ∧ leftsM w l n ≤ n ∧ (0 ≤ leftsM w l n → (ndsL l : Int) + leftsM w l n ≤ n)
  | [], n, h => by simp only [leftsM, ndsL]; omega
  | t :: l, n, h => by
    obtain ⟨h1, h2, h3⟩ := hw t n h
    simp only [leftsM, ndsL]
    split
    · omega
    · rename_i hn
      obtain ⟨g1, g2, g3⟩ := leftsM_bound w hw l (w t n) (by omega)
      have h4 := h3 (by omega)
      refine ⟨g1, by omega, fun h => ?_⟩
      have := g3 h
      omega
theorem leftM_bound : ∀ (d : Nat) (t : T) (n : Int), -1 ≤ n → -1 ≤ leftM d t n ∧ leftM d t n ≤ max n (-1) ∧ (0 ≤ leftM d t n → (t.nds : Int) + leftM d t n ≤ n)
  | 0, t, n, h => by simp only [leftM]; omega
  | d + 1, t, n, h => by
    simp only [leftM]
    split
    · omega
    · obtain ⟨g1, g2, g3⟩ := leftsM_bound (leftM d) (leftM_bound d) t.args (n - 1) (by omega)
      have := T.nds_eq t
      refine ⟨g1, by omega, fun h => ?_⟩
      have := g3 h
      omega

theorem av_fold4 (t : T) : AV.agg [.i t.kind, .i t.int, .v (.string t.name), .sl 4 (avs t.args) none] = t.av := by cases t; simp only [T.av, T.kind, T.int, T.name, T.args]
theorem left_pure : ∀ (d : Nat), d ≤ 100 → ∀ (t : T) (n : Int), -1 ≤ n → n ≤ 1000000 → Pure Try.prog 42 [t.av, .i n, .i d] (.i (leftM d t n))
  | 0, _, t, n, hn1, hn2 => by
    intro h
    have w1 : IntKind.i64.wrap (n - 1) = n - 1 := by rw [IntKind.wrap_i64]; omega
    have z : ((0 : Int) < 1) := by decide
    refine callW_of_body Try.func42 rfl Try.call42 Try.ntmps42 (congrArg Array.toList Try.results42) (by simp) ?_
    repeat (first | ((first | (with_reducible refine codeW_seq_region (fun K E hK hE => ?_)) | (with_reducible refine codeW_region_k (fun K E hK hE => ?_))); simp -implicitDefEqProofs only [opsW_nil, opsW_cons, awanted, OpW, aop, undef, AS.ev, put_some, ofV_int, ofV_bool, upd_at, initTm, List.getD_cons_zero, List.getD_cons_succ, AV.cells1, List.all_cons, List.all_nil, cell1_int, cell1_str, cell1_sl, Bool.and_self, Bool.not_true, ↓reduceIte, List.length_cons, List.length_nil, Nat.reduceAdd, Nat.reduceLT, Nat.reduceEqDiff, Nat.zero_add, aBin, List.getElem?_cons_zero, List.getElem?_cons_succ, Option.map_some, Option.bind_some, List.getElem?_toArray, pv_lss, pv_sub, decide_true, Int.natCast_zero, beq_false, T.av_cells, T.av_cells, w1, z]) | (with_reducible refine codeW_seq_k (fun K hK => ?_)) | (with_reducible refine codeW_block ?_) | (with_reducible refine codeW_ret ?_) | (with_reducible refine codeW_label ?_) | (with_reducible refine codeW_scope ?_) | (with_reducible refine codeW_skip ?_) | (with_reducible refine codeW_exit ?_) | (with_reducible refine to_then_normal ?_) | (with_reducible refine to_then_ret ?_) | (with_reducible refine to_then_exit ?_) | (with_reducible refine to_block_normal ?_) | (with_reducible refine to_block_ret ?_) | (with_reducible refine to_block_hit ?_) | (with_reducible refine to_block_miss rfl ?_) | ((with_reducible refine hK _ ?_); clear hK) | (clear hK; (with_reducible refine hK _ ?_); clear hK) | (clear hK; clear hK; (with_reducible refine hK _ ?_); clear hK) | (clear hK; clear hK; clear hK; (with_reducible refine hK _ ?_); clear hK) | (refine codeW_cond rfl ?_; simp only [↓reduceIte]) | (intro (b : Bool); cases b))
    simp only [BodyQ, aResults, aResult, upd, ↓reduceIte, Option.some.injEq, exists_eq_left']; first | refine leaves_end (htake _ _) (.keep (.v _)) ⟨by simp only [leftM], rfl⟩ | refine leaves_end List.take_length (.keep (.v _)) ⟨by simp only [leftM], rfl⟩
  | d + 1, hd, t, n, hn1, hn2 => by
    intro h
    have w1 : IntKind.i64.wrap (n - 1) = n - 1 := by rw [IntKind.wrap_i64]; omega
    have z : ¬ ((((d + 1 : Nat) : Int)) < 1) := by omega
    have wd : IntKind.i64.wrap (((d + 1 : Nat) : Int) - 1) = (d : Int) := by rw [IntKind.wrap_i64]; omega
    by_cases hc : n - 1 < 0
    · refine callW_of_body Try.func42 rfl Try.call42 Try.ntmps42 (congrArg Array.toList Try.results42) (by simp) ?_
      repeat (first | ((first | (with_reducible refine codeW_seq_region (fun K E hK hE => ?_)) | (with_reducible refine codeW_region_k (fun K E hK hE => ?_))); simp -implicitDefEqProofs only [opsW_nil, opsW_cons, awanted, OpW, aop, undef, AS.ev, put_some, ofV_int, upd_at, initTm, List.getD_cons_zero, List.getD_cons_succ, AV.cells1, List.all_cons, List.all_nil, cell1_int, cell1_str, cell1_sl, Bool.and_self, ↓reduceIte, List.length_cons, List.length_nil, Nat.reduceAdd, Nat.reduceLT, Nat.reduceEqDiff, Nat.zero_add, aBin, List.getElem?_cons_zero, List.getElem?_cons_succ, Option.map_some, Option.bind_some, List.getElem?_toArray, pv_lss, pv_sub, decide_true, decide_false, beq_self_eq_true, Bool.false_eq_true, T.av_cells, T.av_cells, w1, z, hc]) | (with_reducible refine codeW_seq_k (fun K hK => ?_)) | (with_reducible refine codeW_block ?_) | (with_reducible refine codeW_ret ?_) | (with_reducible refine codeW_label ?_) | (with_reducible refine codeW_scope ?_) | (with_reducible refine codeW_skip ?_) | (with_reducible refine codeW_exit ?_) | (with_reducible refine to_then_normal ?_) | (with_reducible refine to_then_ret ?_) | (with_reducible refine to_then_exit ?_) | (with_reducible refine to_block_normal ?_) | (with_reducible refine to_block_ret ?_) | (with_reducible refine to_block_hit ?_) | (with_reducible refine to_block_miss rfl ?_) | ((with_reducible refine hK _ ?_); clear hK) | (clear hK; (with_reducible refine hK _ ?_); clear hK) | (clear hK; clear hK; (with_reducible refine hK _ ?_); clear hK) | (clear hK; clear hK; clear hK; (with_reducible refine hK _ ?_); clear hK) | (refine codeW_cond rfl ?_; simp only [↓reduceIte]) | (intro (b : Bool); cases b))
      simp only [BodyQ, aResults, aResult, upd, ↓reduceIte, Option.some.injEq, exists_eq_left']; first | refine leaves_end (htake _ _) (.keep (.v _)) ⟨by simp only [leftM, if_pos hc], rfl⟩ | refine leaves_end List.take_length (.keep (.v _)) ⟨by simp only [leftM, if_pos hc], rfl⟩
    · have e : leftM (d + 1) t n = leftsM (leftM d) t.args (n - 1) := by simp only [leftM, if_neg hc]
      refine callW_of_body Try.func42 rfl Try.call42 Try.ntmps42 (congrArg Array.toList Try.results42) (by simp) ?_
      repeat (first | ((first | (with_reducible refine codeW_seq_region (fun K E hK hE => ?_)) | (with_reducible refine codeW_region_k (fun K E hK hE => ?_))); simp -implicitDefEqProofs only [opsW_nil, opsW_cons, awanted, OpW, aop, undef, AS.ev, put_some, ofV_int, upd_at, initTm, List.getD_cons_zero, List.getD_cons_succ, AV.cells1, List.all_cons, List.all_nil, cell1_int, cell1_str, cell1_sl, Bool.and_self, ↓reduceIte, List.length_cons, List.length_nil, Nat.reduceAdd, Nat.reduceLT, Nat.reduceEqDiff, Nat.zero_add, aFieldAddr, aLoad, aPart, aBin, aLen, hget0, List.getElem?_cons_zero, List.getElem?_cons_succ, Option.map_some, Option.bind_some, List.getElem?_toArray, pv_lss, pv_sub, goInt, decide_false, beq_self_eq_true, Bool.false_eq_true, T.av_cells, avs_length, ti45, un45, fi49_3, T.av_cells, w1, z, hc]) | (with_reducible refine codeW_seq_k (fun K hK => ?_)) | (with_reducible refine codeW_block ?_) | (with_reducible refine codeW_ret ?_) | (with_reducible refine codeW_label ?_) | (with_reducible refine codeW_scope ?_) | (with_reducible refine codeW_skip ?_) | (with_reducible refine codeW_exit ?_) | (with_reducible refine to_then_normal ?_) | (with_reducible refine to_then_ret ?_) | (with_reducible refine to_then_exit ?_) | (with_reducible refine to_block_normal ?_) | (with_reducible refine to_block_ret ?_) | (with_reducible refine to_block_hit ?_) | (with_reducible refine to_block_miss rfl ?_) | ((with_reducible refine hK _ ?_); clear hK) | (clear hK; (with_reducible refine hK _ ?_); clear hK) | (clear hK; clear hK; (with_reducible refine hK _ ?_); clear hK) | (clear hK; clear hK; clear hK; (with_reducible refine hK _ ?_); clear hK) | (refine codeW_cond rfl ?_; simp only [↓reduceIte, Bool.false_eq_true]) | (intro (b : Bool); cases b))
      obtain ⟨I, hI⟩ : ∃ I : Nat → AS → Prop, I = fun m' s => ∃ (j : Nat) (a : Int), m' = t.args.length - j ∧ j ≤ t.args.length ∧ 0 ≤ a ∧ a + j ≤ n ∧ leftsM (leftM d) t.args (n - 1) = leftsM (leftM d) (t.args.drop j) a ∧ s.tm 1 = .i a ∧ s.tm 2 = .i ((d + 1 : Nat) : Int) ∧ s.tm 3 = .ptr h.length 0 0 ∧ s.tm 18 = .i t.args.length ∧ s.tm 19 = .i j ∧ s.h = h ++ [.cells 49 4 [t.av]] := ⟨_, rfl⟩; refine codeW_loop I ?_ (m := t.args.length) ?_
      · intro m' s hs; rw [hI] at hs; obtain ⟨tm, hp⟩ := s; dsimp only at hs; obtain ⟨j, a, rfl, hj, ha1, ha2, he, t1, t2, t3, t18, t19, rfl⟩ := hs
        by_cases hlt : j < t.args.length
        · rw [List.drop_eq_getElem_cons hlt, leftsM] at he
          have c := left_pure d (by omega) t.args[j] a (by omega) (by omega)
          obtain ⟨b1, b2, b3⟩ := leftM_bound d t.args[j] a (by omega)
          have b4 := T.nds_eq t.args[j]
          by_cases hneg : leftM d t.args[j] a < 0
          · rw [if_pos hneg] at he
            repeat (first | ((first | (with_reducible refine codeW_seq_region (fun K E hK hE => ?_)) | (with_reducible refine codeW_region_k (fun K E hK hE => ?_)) | (with_reducible refine funW_pure c ?_) | (with_reducible refine callA_pure c ?_)); simp -implicitDefEqProofs only [opsW_nil, opsW_cons, awanted, OpW, contW, aop, AS.ev, put_some, ofV_int, upd_at, ↓reduceIte, List.length_cons, List.length_nil, Nat.reduceAdd, Nat.reduceLT, Nat.reduceEqDiff, Nat.zero_add, and_self, aFieldAddr, aLoad, aPart, aIndexAddr, aBin, hget0, List.getElem?_cons_zero, List.getElem?_cons_succ, Option.map_some, List.map_cons, List.map_nil, pv_lss, pv_sub, decide_true, Int.toNat_natCast, Int.natCast_nonneg, Int.ofNat_lt, T.av_cells, T.av_isAgg, avs_length, ti45, ei45, ti49, fi49_3, t1, t2, t3, t18, t19, hlt, avs_get hlt, T.av_cells, T.av_isAgg, wd, hneg]) | (with_reducible refine codeW_seq_k (fun K hK => ?_)) | (with_reducible refine codeW_block ?_) | (with_reducible refine codeW_ret ?_) | (with_reducible refine codeW_label ?_) | (with_reducible refine codeW_scope ?_) | (with_reducible refine codeW_skip ?_) | (with_reducible refine codeW_exit ?_) | (with_reducible refine to_then_normal ?_) | (with_reducible refine to_then_ret ?_) | (with_reducible refine to_then_exit ?_) | (with_reducible refine to_block_normal ?_) | (with_reducible refine to_block_ret ?_) | (with_reducible refine to_block_hit ?_) | (with_reducible refine to_block_miss rfl ?_) | ((with_reducible refine hK _ ?_); clear hK) | (clear hK; (with_reducible refine hK _ ?_); clear hK) | (clear hK; clear hK; (with_reducible refine hK _ ?_); clear hK) | (clear hK; clear hK; clear hK; (with_reducible refine hK _ ?_); clear hK) | (refine codeW_cond rfl ?_; simp only [↓reduceIte]) | (intro (b : Bool); cases b))
            simp only [BodyQ, aResults, aResult, upd, ↓reduceIte, Option.some.injEq, exists_eq_left']
            exact leaves_end (htake _ _) (.keep (.v _)) ⟨by rw [e, he], rfl⟩
          · rw [if_neg hneg] at he
            repeat (first | ((first | (with_reducible refine codeW_seq_region (fun K E hK hE => ?_)) | (with_reducible refine codeW_region_k (fun K E hK hE => ?_)) | (with_reducible refine funW_pure c ?_) | (with_reducible refine callA_pure c ?_)); simp -implicitDefEqProofs only [opsW_nil, opsW_cons, awanted, OpW, contW, aop, AS.ev, put_some, ofV_int, upd_at, ↓reduceIte, List.length_cons, List.length_nil, Nat.reduceAdd, Nat.reduceLT, Nat.reduceEqDiff, Nat.zero_add, and_self, aFieldAddr, aLoad, aPart, aIndexAddr, aBin, hget0, List.getElem?_cons_zero, List.getElem?_cons_succ, Option.map_some, List.map_cons, List.map_nil, pv_lss, pv_add, pv_sub, decide_true, decide_false, Int.toNat_natCast, Int.natCast_nonneg, Int.ofNat_lt, T.av_cells, T.av_isAgg, avs_length, ti45, ei45, ti49, fi49_3, t1, t2, t3, t18, t19, hlt, avs_get hlt, T.av_cells, T.av_isAgg, wd, hneg]) | (with_reducible refine codeW_seq_k (fun K hK => ?_)) | (with_reducible refine codeW_block ?_) | (with_reducible refine codeW_ret ?_) | (with_reducible refine codeW_label ?_) | (with_reducible refine codeW_scope ?_) | (with_reducible refine codeW_skip ?_) | (with_reducible refine codeW_exit ?_) | (with_reducible refine to_then_normal ?_) | (with_reducible refine to_then_ret ?_) | (with_reducible refine to_then_exit ?_) | (with_reducible refine to_block_normal ?_) | (with_reducible refine to_block_ret ?_) | (with_reducible refine to_block_hit ?_) | (with_reducible refine to_block_miss rfl ?_) | ((with_reducible refine hK _ ?_); clear hK) | (clear hK; (with_reducible refine hK _ ?_); clear hK) | (clear hK; clear hK; (with_reducible refine hK _ ?_); clear hK) | (clear hK; clear hK; clear hK; (with_reducible refine hK _ ?_); clear hK) | (refine codeW_cond rfl ?_; simp only [↓reduceIte, Bool.false_eq_true]) | (intro (b : Bool); cases b))
            refine Onward.mk (m' := t.args.length - (j + 1)) (by omega) ?_
            rw [hI]
            refine ⟨j + 1, _, rfl, hlt, by omega, by omega, he, rfl, t2, t3, t18, ?_, rfl⟩
            simp only [upd, ↓reduceIte]
            rw [wrap_nat (by omega)]
        · rw [List.drop_eq_nil_of_le (by omega), leftsM] at he
          repeat (first | ((first | (with_reducible refine codeW_seq_region (fun K E hK hE => ?_)) | (with_reducible refine codeW_region_k (fun K E hK hE => ?_))); simp -implicitDefEqProofs only [opsW_nil, opsW_cons, awanted, OpW, aop, AS.ev, put_some, upd_at, ↓reduceIte, Nat.reduceLT, Nat.reduceEqDiff, aBin, Option.map_some, pv_lss, decide_false, Int.ofNat_lt, t1, t18, t19, hlt]) | (with_reducible refine codeW_seq_k (fun K hK => ?_)) | (with_reducible refine codeW_block ?_) | (with_reducible refine codeW_ret ?_) | (with_reducible refine codeW_label ?_) | (with_reducible refine codeW_scope ?_) | (with_reducible refine codeW_skip ?_) | (with_reducible refine codeW_exit ?_) | (with_reducible refine to_then_normal ?_) | (with_reducible refine to_then_ret ?_) | (with_reducible refine to_then_exit ?_) | (with_reducible refine to_block_normal ?_) | (with_reducible refine to_block_ret ?_) | (with_reducible refine to_block_hit ?_) | (with_reducible refine to_block_miss rfl ?_) | ((with_reducible refine hK _ ?_); clear hK) | (clear hK; (with_reducible refine hK _ ?_); clear hK) | (clear hK; clear hK; (with_reducible refine hK _ ?_); clear hK) | (clear hK; clear hK; clear hK; (with_reducible refine hK _ ?_); clear hK) | (refine codeW_cond rfl ?_; simp only [↓reduceIte, Bool.false_eq_true]) | (intro (b : Bool); cases b))
          simp only [BodyQ, aResults, aResult, upd, ↓reduceIte, Option.some.injEq, exists_eq_left']
          exact leaves_end (htake _ _) (.keep (.v _)) ⟨by rw [e, he], rfl⟩
      · rw [hI]
        exact ⟨0, n - 1, by omega, Nat.zero_le _, by omega, by omega, by rw [List.drop_zero], rfl, rfl, rfl, rfl, rfl, rfl⟩

theorem small_pure (t : T) : Pure Try.prog 39 [t.av] (.b (decide (leftM 100 t 1000 ≥ 0))) := by
  intro h
  have c := left_pure 100 (Nat.le_refl _) t 1000 (by omega) (by omega)
  have e : ((100 : Nat) : Int) = 100 := rfl
  rw [e] at c
  refine callW_of_body Try.func39 rfl Try.call39 Try.ntmps39 (congrArg Array.toList Try.results39) (by simp) ?_
  repeat (first | ((first | (with_reducible refine codeW_seq_region (fun K E hK hE => ?_)) | (with_reducible refine codeW_region_k (fun K E hK hE => ?_)) | (with_reducible refine funW_pure c ?_) | (with_reducible refine callA_pure c ?_)); simp -implicitDefEqProofs only [opsW_nil, opsW_cons, awanted, OpW, contW, aop, undef, AS.ev, put_some, ofV_int, ofV_bool, upd_at, initTm, List.getD_cons_zero, AV.cells1, List.all_cons, List.all_nil, cell1_int, cell1_str, cell1_sl, Bool.and_self, ↓reduceIte, List.length_cons, List.length_nil, Nat.reduceAdd, Nat.reduceLT, Nat.reduceEqDiff, Nat.zero_add, and_self, aLoad, aPart, aBin, hget0, List.getElem?_cons_zero, Option.map_some, List.map_cons, List.map_nil, pv_geq, T.av_cells, T.av_isAgg, ti49, T.av_cells, T.av_isAgg]) | (with_reducible refine codeW_seq_k (fun K hK => ?_)) | (with_reducible refine codeW_block ?_) | (with_reducible refine codeW_ret ?_) | (with_reducible refine codeW_label ?_) | (with_reducible refine codeW_scope ?_) | (with_reducible refine codeW_skip ?_) | (with_reducible refine codeW_exit ?_) | (with_reducible refine to_then_normal ?_) | (with_reducible refine to_then_ret ?_) | (with_reducible refine to_then_exit ?_) | (with_reducible refine to_block_normal ?_) | (with_reducible refine to_block_ret ?_) | (with_reducible refine to_block_hit ?_) | (with_reducible refine to_block_miss rfl ?_) | ((with_reducible refine hK _ ?_); clear hK) | (clear hK; (with_reducible refine hK _ ?_); clear hK) | (clear hK; clear hK; (with_reducible refine hK _ ?_); clear hK) | (clear hK; clear hK; clear hK; (with_reducible refine hK _ ?_); clear hK) | (refine codeW_cond rfl ?_; simp only [↓reduceIte, Bool.false_eq_true]) | (intro (b : Bool); cases b))
  simp only [BodyQ, aResults, aResult, upd, ↓reduceIte, Option.some.injEq, exists_eq_left']; first | refine leaves_end (htake _ _) (.keep (.v _)) ⟨rfl, rfl⟩ | refine leaves_end List.take_length (.keep (.v _)) ⟨rfl, rfl⟩
theorem small_nds {t : T} (h : leftM 100 t 1000 ≥ 0) : t.nds ≤ 1000 := by
  have := (leftM_bound 100 t 1000 (by omega)).2.2 h
  omega
end Go.Proofs.Ytoccpldnegloaaa.Ab
