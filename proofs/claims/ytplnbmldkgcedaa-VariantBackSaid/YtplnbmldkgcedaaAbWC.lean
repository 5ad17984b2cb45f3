/-
  Contracts of functions, and laws of terms.
-/
import Derived.Test.YtplnbmldkgcedaaAbWs
import Derived.Test.YtplnbmldkgcedaaAbWc
set_option linter.unusedSimpArgs false
set_option linter.unusedVariables false
set_option maxHeartbeats 4000000
set_option maxRecDepth 4000
namespace Go.Proofs.Ytplnbmldkgcedaa.Ab
open Go.Proofs

mutual
def T.depth : T → Nat
  | .mk k _ _ l => (if k = 2 then depths 0 l else 0) + 1
def depths : Nat → List T → Nat
  | n, [] => n
  | n, t :: l => depths (if t.depth > n then t.depth else n) l
end
theorem T.depth_eq (t : T) : t.depth = depths 0 t.uses + 1 := by
  cases t with | mk k i n l =>
  show T.depth (.mk k i n l) = depths 0 (if k = 2 then l else []) + 1
  simp only [T.depth]
  by_cases h : k = 2
  · simp [h]
  · simp [h, depths]
mutual
theorem T.size_nds : ∀ t : T, t.size ≤ t.nds
  | .mk k i n l => by
    simp only [T.size, T.nds]
    have := sizes_nds l
    split <;> omega
theorem sizes_nds : ∀ l : List T, sizes l ≤ ndsL l
  | [] => Nat.le_refl _
  | t :: l => by
    have h1 := T.size_nds t
    have h2 := sizes_nds l
    simp only [sizes, ndsL]; omega
end
mutual
theorem T.depth_nds : ∀ t : T, t.depth ≤ t.nds
  | .mk k i n l => by
    simp only [T.depth, T.nds]
    have := depths_nds 0 l
    split <;> omega
theorem depths_nds : ∀ (n : Nat) (l : List T), depths n l ≤ n + ndsL l
  | n, [] => by simp [depths]
  | n, t :: l => by
    have h1 := T.depth_nds t
    have h2 := depths_nds (if t.depth > n then t.depth else n) l
    simp only [depths, ndsL]
    split at h2 <;> (split <;> omega)
end
mutual
theorem T.size_map (f : Int → Int) : ∀ t : T, (t.map f).size = t.size
  | .mk k i n l => by
    simp only [T.map]
    by_cases h1 : k = 1
    · simp [h1, T.size]
    · by_cases h2 : k = 2
      · simp [h1, h2, T.size, sizes_map f l]
      · simp [h1, h2, T.size]
theorem sizes_map (f : Int → Int) : ∀ l : List T, sizes (maps f l) = sizes l
  | [] => rfl
  | t :: l => by simp only [maps, sizes, T.size_map f t, sizes_map f l]
end
mutual
theorem T.depth_map (f : Int → Int) : ∀ t : T, (t.map f).depth = t.depth
  | .mk k i n l => by
    simp only [T.map]
    by_cases h1 : k = 1
    · simp [h1, T.depth]
    · by_cases h2 : k = 2
      · simp [h1, h2, T.depth, depths_map f 0 l]
      · simp [h1, h2, T.depth]
theorem depths_map (f : Int → Int) : ∀ (n : Nat) (l : List T), depths n (maps f l) = depths n l
  | n, [] => rfl
  | n, t :: l => by simp only [maps, depths, T.depth_map f t, depths_map f _ l]
end
theorem nds_uses (t : T) : ndsL t.uses ≤ ndsL t.args := by
  unfold T.uses
  split
  · exact Nat.le_refl _
  · simp [ndsL]

theorem termDepth_pure : ∀ (n : Nat), n ≤ 1000000 → ∀ t : T, t.nds ≤ n → Pure Try.prog 27 [t.av] (.i (t.depth : Nat))
  | 0, _, t, hn => by have := T.nds_eq t; omega
  | n + 1, hb, t, hn => by
    intro h
    have e := T.depth_eq t
    have hnd := T.nds_eq t
    have hu := nds_uses t
    have hll := length_le_nds t.uses
    refine callW_of_body Try.func27 rfl Try.call27 Try.ntmps27 (congrArg Array.toList Try.results27) (by simp) ?_
    repeat (first | ((first | (with_reducible refine codeW_seq_region (fun K E hK hE => ?_)) | (with_reducible refine codeW_region_k (fun K E hK hE => ?_)) | (with_reducible refine funW_pure (termArgs_pure t) ?_) | (with_reducible refine callA_pure (termArgs_pure t) ?_)); simp -implicitDefEqProofs only [anyW_nil, anyW_cons, anyO_eq, opsW_nil, opsW_cons, awanted, OpW, contW, aop, undef, nilAsk, List.isEmpty_nil, List.isEmpty_cons, ev_tmp, ev_const, ev_func, AS.ev, put_some, put_none, ofV_int, ofV_bool, ofV_str, ofV_slice, ofV_map, ofV_pointer, ofV_nilFunc, ofV_nilIface, ofV_agg, upd_at, initTm, List.getD_cons_zero, List.getD_cons_succ, AV.cells1, cells_agg, cells_v, cells_sl, cells_pin, cells_ptr, cells_arr, cells_mp, cells_fn, cells_ifc, isAgg_agg, isAgg_v, isAgg_sl, isAgg_pin, isAgg_ptr, isAgg_arr, isAgg_mp, isAgg_fn, isAgg_ifc, List.all_cons, List.all_nil, cell1_int, cell1_bool, cell1_str, cell1_slice, cell1_map, cell1_pointer, cell1_nilFunc, cell1_nilIface, cell1_sl, cell1_pin, cell1_ptr, cell1_arr, cell1_mp, cell1_fn, cell1_ifc, Bool.and_self, Bool.and_true, Bool.true_and, Bool.not_true, Bool.not_false, ↓reduceIte, List.length_cons, List.length_nil, Nat.reduceAdd, Nat.reduceLT, Nat.reduceLeDiff, Nat.reduceEqDiff, Nat.reduceSub, Nat.reduceMul, Nat.zero_add, Nat.add_zero, true_and, and_true, and_self, then_normal, block_normal, aFieldAddr, aLoad, aPart, aStore, aSetPart, aIndexAddr, aBin, aField, aExtract, aBuild, aFill, aBuildSlice, aSlice, boundOf, aLen, aAppend, srcOf, aLookup, aMapUpdate, hget0, hget, hset0, hset, hlen, happ, List.getElem?_cons_zero, List.getElem?_cons_succ, List.getElem?_nil, List.set_cons_zero, List.set_cons_succ, Option.map_some, Option.map_none, Option.bind_some, Option.bind_none, Option.some.injEq, List.toList_toArray, List.getElem?_toArray, List.map_cons, List.map_nil, List.cons_append, List.nil_append, List.append_nil, List.take_succ_cons, List.take_zero, List.drop_succ_cons, List.drop_zero, pv_eql, pv_neq, pv_lss, pv_leq, pv_gtr, pv_geq, pv_add, pv_sub, pv_mul, pv_not, pv_neg, pv_max, pv_min, pv_seql, pv_sneq, pv_slss, pv_sgtr, goInt, decide_true, decide_false, beq_self_eq_true, bne_self_eq_false, Int.toNat_natCast, Int.toNat_zero, Int.toNat_one, Int.natCast_nonneg, Int.ofNat_lt, Int.ofNat_le, Int.natCast_zero, Bool.false_eq_true, Bool.true_eq_false, beq_true, beq_false, rng0, rng1, rng2, rng3, rng4, rng5, rng6, rng7, rng8, any_some', Nat.reducePow, Nat.zero_le, Nat.zero_mul, T.av_cells, T.av_isAgg, avs_length, ints_length, ti0, zi0, ti3, zi3, un3, ti22, ei22, ai22, zi22, un22, ti24, fi24_0, fi24_1, fi24_2, fi24_3, zi24, sp24]) | (with_reducible refine codeW_seq_k (fun K hK => ?_)) | (with_reducible refine codeW_block ?_) | (with_reducible refine codeW_ret ?_) | (with_reducible refine codeW_skip ?_) | (with_reducible refine codeW_exit ?_) | (with_reducible refine to_then_normal ?_) | (with_reducible refine to_then_ret ?_) | (with_reducible refine to_then_exit ?_) | (with_reducible refine to_block_normal ?_) | (with_reducible refine to_block_ret ?_) | (with_reducible refine to_block_hit ?_) | (with_reducible refine to_block_miss rfl ?_) | ((with_reducible refine hK _ ?_); clear hK) | (clear hK; (with_reducible refine hK _ ?_); clear hK) | (clear hK; clear hK; (with_reducible refine hK _ ?_); clear hK) | (clear hK; clear hK; clear hK; (with_reducible refine hK _ ?_); clear hK) | (refine codeW_cond rfl ?_; simp only [↓reduceIte, Bool.false_eq_true]) | (intro (b : Bool); cases b))
    obtain ⟨I, hI⟩ : ∃ I : Nat → AS → Prop, I = fun m' s => ∃ (k d : Nat) (L : AH), m' = t.uses.length - k ∧ k ≤ t.uses.length ∧ depths 0 t.uses = depths d (t.uses.drop k) ∧ d ≤ 1000000 ∧ s.tm 3 = .i (d : Int) ∧ s.tm 7 = .sl 4 (avs t.uses) none ∧
      s.tm 8 = .i t.uses.length ∧ s.tm 9 = .i k ∧ s.h = h ++ L := ⟨_, rfl⟩; refine codeW_loop I ?_ (m := t.uses.length) ?_
    · intro m' s hs; rw [hI] at hs; obtain ⟨tm, hp⟩ := s; dsimp only at hs; obtain ⟨k, d, L, rfl, hk, he, hd, t3, t7, t8, t9, rfl⟩ := hs
      by_cases hlt : k < t.uses.length
      · rw [List.drop_eq_getElem_cons hlt] at he
        simp only [depths] at he
        have hts := ndsL_get hlt
        have hc := termDepth_pure n (by omega) t.uses[k] (by omega)
        have hdn := T.depth_nds t.uses[k]
        have hcast : (if d < t.uses[k].depth then ((t.uses[k].depth : Nat) : Int) else (d : Int)) = (((if t.uses[k].depth > d then t.uses[k].depth else d) : Nat) : Int) := by
          split <;> rfl
        repeat (first | ((first | (with_reducible refine codeW_seq_region (fun K E hK hE => ?_)) | (with_reducible refine codeW_region_k (fun K E hK hE => ?_)) | (with_reducible refine funW_pure hc ?_) | (with_reducible refine callA_pure hc ?_)); simp -implicitDefEqProofs only [anyW_nil, anyW_cons, anyO_eq, opsW_nil, opsW_cons, awanted, OpW, contW, aop, undef, nilAsk, List.isEmpty_nil, List.isEmpty_cons, ev_tmp, ev_const, ev_func, AS.ev, put_some, put_none, ofV_int, ofV_bool, ofV_str, ofV_slice, ofV_map, ofV_pointer, ofV_nilFunc, ofV_nilIface, ofV_agg, upd_at, initTm, List.getD_cons_zero, List.getD_cons_succ, AV.cells1, cells_agg, cells_v, cells_sl, cells_pin, cells_ptr, cells_arr, cells_mp, cells_fn, cells_ifc, isAgg_agg, isAgg_v, isAgg_sl, isAgg_pin, isAgg_ptr, isAgg_arr, isAgg_mp, isAgg_fn, isAgg_ifc, List.all_cons, List.all_nil, cell1_int, cell1_bool, cell1_str, cell1_slice, cell1_map, cell1_pointer, cell1_nilFunc, cell1_nilIface, cell1_sl, cell1_pin, cell1_ptr, cell1_arr, cell1_mp, cell1_fn, cell1_ifc, Bool.and_self, Bool.and_true, Bool.true_and, Bool.not_true, Bool.not_false, ↓reduceIte, List.length_cons, List.length_nil, Nat.reduceAdd, Nat.reduceLT, Nat.reduceLeDiff, Nat.reduceEqDiff, Nat.reduceSub, Nat.reduceMul, Nat.zero_add, Nat.add_zero, true_and, and_true, and_self, then_normal, block_normal, aFieldAddr, aLoad, aPart, aStore, aSetPart, aIndexAddr, aBin, aField, aExtract, aBuild, aFill, aBuildSlice, aSlice, boundOf, aLen, aAppend, srcOf, aLookup, aMapUpdate, hget0, hget, hset0, hset, hlen, happ, List.getElem?_cons_zero, List.getElem?_cons_succ, List.getElem?_nil, List.set_cons_zero, List.set_cons_succ, Option.map_some, Option.map_none, Option.bind_some, Option.bind_none, Option.some.injEq, List.toList_toArray, List.getElem?_toArray, List.map_cons, List.map_nil, List.cons_append, List.nil_append, List.append_nil, List.take_succ_cons, List.take_zero, List.drop_succ_cons, List.drop_zero, pv_eql, pv_neq, pv_lss, pv_leq, pv_gtr, pv_geq, pv_add, pv_sub, pv_mul, pv_not, pv_neg, pv_max, pv_min, pv_seql, pv_sneq, pv_slss, pv_sgtr, goInt, decide_true, decide_false, beq_self_eq_true, bne_self_eq_false, Int.toNat_natCast, Int.toNat_zero, Int.toNat_one, Int.natCast_nonneg, Int.ofNat_lt, Int.ofNat_le, Int.natCast_zero, Bool.false_eq_true, Bool.true_eq_false, beq_true, beq_false, rng0, rng1, rng2, rng3, rng4, rng5, rng6, rng7, rng8, any_some', Nat.reducePow, Nat.zero_le, Nat.zero_mul, T.av_cells, T.av_isAgg, avs_length, ints_length, ti0, zi0, ti3, zi3, un3, ti22, ei22, ai22, zi22, un22, ti24, fi24_0, fi24_1, fi24_2, fi24_3, zi24, sp24, hlt, t3, t7, t8, t9, avs_get hlt]) | (with_reducible refine codeW_seq_k (fun K hK => ?_)) | (with_reducible refine codeW_block ?_) | (with_reducible refine codeW_ret ?_) | (with_reducible refine codeW_skip ?_) | (with_reducible refine codeW_exit ?_) | (with_reducible refine to_then_normal ?_) | (with_reducible refine to_then_ret ?_) | (with_reducible refine to_then_exit ?_) | (with_reducible refine to_block_normal ?_) | (with_reducible refine to_block_ret ?_) | (with_reducible refine to_block_hit ?_) | (with_reducible refine to_block_miss rfl ?_) | ((with_reducible refine hK _ ?_); clear hK) | (clear hK; (with_reducible refine hK _ ?_); clear hK) | (clear hK; clear hK; (with_reducible refine hK _ ?_); clear hK) | (clear hK; clear hK; clear hK; (with_reducible refine hK _ ?_); clear hK) | (refine codeW_cond rfl ?_; simp only [↓reduceIte, Bool.false_eq_true]) | (intro (b : Bool); cases b))
        refine Onward.mk (m' := t.uses.length - (k + 1)) (by omega) ?_
        rw [hI]
        refine ⟨k + 1, _, _, rfl, hlt, he, ?_, ?_, t7, t8, ?_, rfl⟩
        · split <;> omega
        · simp only [upd, ↓reduceIte, Nat.reduceEqDiff]
          rw [← hcast]
          try rfl
        · simp only [upd, ↓reduceIte, Nat.reduceEqDiff]
          rw [wrap_nat (by omega)]
      · have hkl : k = t.uses.length := by omega
        rw [hkl, List.drop_length] at he
        simp only [depths] at he
        have hw : IntKind.i64.wrap ((d : Int) + 1) = ((d + 1 : Nat) : Int) := wrap_nat (by omega)
        repeat (first | ((first | (with_reducible refine codeW_seq_region (fun K E hK hE => ?_)) | (with_reducible refine codeW_region_k (fun K E hK hE => ?_))); simp -implicitDefEqProofs only [anyW_nil, anyW_cons, anyO_eq, opsW_nil, opsW_cons, awanted, OpW, contW, aop, undef, nilAsk, List.isEmpty_nil, List.isEmpty_cons, ev_tmp, ev_const, ev_func, AS.ev, put_some, put_none, ofV_int, ofV_bool, ofV_str, ofV_slice, ofV_map, ofV_pointer, ofV_nilFunc, ofV_nilIface, ofV_agg, upd_at, initTm, List.getD_cons_zero, List.getD_cons_succ, AV.cells1, cells_agg, cells_v, cells_sl, cells_pin, cells_ptr, cells_arr, cells_mp, cells_fn, cells_ifc, isAgg_agg, isAgg_v, isAgg_sl, isAgg_pin, isAgg_ptr, isAgg_arr, isAgg_mp, isAgg_fn, isAgg_ifc, List.all_cons, List.all_nil, cell1_int, cell1_bool, cell1_str, cell1_slice, cell1_map, cell1_pointer, cell1_nilFunc, cell1_nilIface, cell1_sl, cell1_pin, cell1_ptr, cell1_arr, cell1_mp, cell1_fn, cell1_ifc, Bool.and_self, Bool.and_true, Bool.true_and, Bool.not_true, Bool.not_false, ↓reduceIte, List.length_cons, List.length_nil, Nat.reduceAdd, Nat.reduceLT, Nat.reduceLeDiff, Nat.reduceEqDiff, Nat.reduceSub, Nat.reduceMul, Nat.zero_add, Nat.add_zero, true_and, and_true, and_self, then_normal, block_normal, aFieldAddr, aLoad, aPart, aStore, aSetPart, aIndexAddr, aBin, aField, aExtract, aBuild, aFill, aBuildSlice, aSlice, boundOf, aLen, aAppend, srcOf, aLookup, aMapUpdate, hget0, hget, hset0, hset, hlen, happ, List.getElem?_cons_zero, List.getElem?_cons_succ, List.getElem?_nil, List.set_cons_zero, List.set_cons_succ, Option.map_some, Option.map_none, Option.bind_some, Option.bind_none, Option.some.injEq, List.toList_toArray, List.getElem?_toArray, List.map_cons, List.map_nil, List.cons_append, List.nil_append, List.append_nil, List.take_succ_cons, List.take_zero, List.drop_succ_cons, List.drop_zero, pv_eql, pv_neq, pv_lss, pv_leq, pv_gtr, pv_geq, pv_add, pv_sub, pv_mul, pv_not, pv_neg, pv_max, pv_min, pv_seql, pv_sneq, pv_slss, pv_sgtr, goInt, decide_true, decide_false, beq_self_eq_true, bne_self_eq_false, Int.toNat_natCast, Int.toNat_zero, Int.toNat_one, Int.natCast_nonneg, Int.ofNat_lt, Int.ofNat_le, Int.natCast_zero, Bool.false_eq_true, Bool.true_eq_false, beq_true, beq_false, rng0, rng1, rng2, rng3, rng4, rng5, rng6, rng7, rng8, any_some', Nat.reducePow, Nat.zero_le, Nat.zero_mul, T.av_cells, T.av_isAgg, avs_length, ints_length, ti0, zi0, ti3, zi3, un3, ti22, ei22, ai22, zi22, un22, ti24, fi24_0, fi24_1, fi24_2, fi24_3, zi24, sp24, hlt, t3, t7, t8, t9, hw]) | (with_reducible refine codeW_seq_k (fun K hK => ?_)) | (with_reducible refine codeW_block ?_) | (with_reducible refine codeW_ret ?_) | (with_reducible refine codeW_skip ?_) | (with_reducible refine codeW_exit ?_) | (with_reducible refine to_then_normal ?_) | (with_reducible refine to_then_ret ?_) | (with_reducible refine to_then_exit ?_) | (with_reducible refine to_block_normal ?_) | (with_reducible refine to_block_ret ?_) | (with_reducible refine to_block_hit ?_) | (with_reducible refine to_block_miss rfl ?_) | ((with_reducible refine hK _ ?_); clear hK) | (clear hK; (with_reducible refine hK _ ?_); clear hK) | (clear hK; clear hK; (with_reducible refine hK _ ?_); clear hK) | (clear hK; clear hK; clear hK; (with_reducible refine hK _ ?_); clear hK) | (refine codeW_cond rfl ?_; simp only [↓reduceIte, Bool.false_eq_true]) | (intro (b : Bool); cases b))
        simp only [then_ret, block_ret, then_normal, block_normal, BodyQ, aResults, aResult, upd, ↓reduceIte, Nat.reduceEqDiff, Option.some.injEq, exists_eq_left']
        exact leaves_end (htake _ _) (.keep (.v _)) ⟨by rw [e, he], rfl⟩
    · rw [hI]
      exact ⟨0, 0, _, by omega, Nat.zero_le _, rfl, by omega, rfl, rfl, rfl, rfl, rfl⟩
end Go.Proofs.Ytplnbmldkgcedaa.Ab
