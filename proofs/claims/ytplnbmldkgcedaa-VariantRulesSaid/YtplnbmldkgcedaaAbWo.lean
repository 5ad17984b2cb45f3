/-
  The chapter's examples come out true.
-/
import Derived.Test.YtplnbmldkgcedaaAbWn
import Derived.Test.YtplnbmldkgcedaaAbWj
import Derived.Test.YtplnbmldkgcedaaAbWk
import Derived.Test.YtplnbmldkgcedaaAbWl
import Derived.Test.YtplnbmldkgcedaaAbWm
import Derived.Test.YtplnbmldkgcedaaAbWg
import Derived.Test.YtplnbmldkgcedaaAbWq
set_option linter.unusedSimpArgs false
set_option linter.unusedVariables false
set_option maxHeartbeats 4000000
set_option maxRecDepth 4000
namespace Go.Proofs.Ytplnbmldkgcedaa.Ab
open Go.Proofs

theorem numbered_nds (l : List T) : ndsL (numbered l) = ndsL l := maps_nds l

theorem variants_pure (a b : List T) (ha : ndsL a ≤ 1000000) (hb : ndsL b ≤ 1000000) (oa : oks a) (ob : oks b) : Pure Try.prog 21 [.sl 4 (avs a) none, .sl 4 (avs b) none] (.b (eqB (numbered a) (numbered b))) := by
  intro h
  have c1 := number_pure a ha oa
  have c2 := number_pure b hb ob
  have c3 := equalFunc_pure (numbered a) (numbered b) (by rw [numbered_nds]; exact ha)
  refine callW_of_body Try.func21 rfl Try.call21 Try.ntmps21 (congrArg Array.toList Try.results21) (by simp) ?_
  repeat (first | ((first | (with_reducible refine codeW_seq_region (fun K E hK hE => ?_)) | (with_reducible refine codeW_region_k (fun K E hK hE => ?_)) | (with_reducible refine funW_pure c1 ?_) | (with_reducible refine callA_pure c1 ?_) | (with_reducible refine funW_pure c2 ?_) | (with_reducible refine callA_pure c2 ?_) | (with_reducible refine funW_pure c3 ?_) | (with_reducible refine callA_pure c3 ?_)); simp -implicitDefEqProofs only [anyW_nil, anyW_cons, anyO_eq, opsW_nil, opsW_cons, awanted, OpW, contW, aop, undef, nilAsk, List.isEmpty_nil, List.isEmpty_cons, ev_tmp, ev_const, ev_func, AS.ev, put_some, put_none, ofV_int, ofV_bool, ofV_str, ofV_slice, ofV_map, ofV_pointer, ofV_nilFunc, ofV_nilIface, ofV_agg, upd_at, initTm, List.getD_cons_zero, List.getD_cons_succ, AV.cells1, cells_agg, cells_v, cells_sl, cells_pin, cells_ptr, cells_arr, cells_mp, cells_fn, cells_ifc, isAgg_agg, isAgg_v, isAgg_sl, isAgg_pin, isAgg_ptr, isAgg_arr, isAgg_mp, isAgg_fn, isAgg_ifc, List.all_cons, List.all_nil, cell1_int, cell1_bool, cell1_str, cell1_slice, cell1_map, cell1_pointer, cell1_nilFunc, cell1_nilIface, cell1_sl, cell1_pin, cell1_ptr, cell1_arr, cell1_mp, cell1_fn, cell1_ifc, Bool.and_self, Bool.and_true, Bool.true_and, Bool.not_true, Bool.not_false, ↓reduceIte, List.length_cons, List.length_nil, Nat.reduceAdd, Nat.reduceLT, Nat.reduceLeDiff, Nat.reduceEqDiff, Nat.reduceSub, Nat.reduceMul, Nat.zero_add, Nat.add_zero, true_and, and_true, and_self, then_normal, block_normal, aFieldAddr, aLoad, aPart, aStore, aSetPart, aIndexAddr, aBin, aField, aExtract, aBuild, aFill, aBuildSlice, aSlice, boundOf, aLen, aAppend, srcOf, aLookup, aMapUpdate, hget0, hget, hset0, hset, hlen, happ, List.getElem?_cons_zero, List.getElem?_cons_succ, List.getElem?_nil, List.set_cons_zero, List.set_cons_succ, Option.map_some, Option.map_none, Option.bind_some, Option.bind_none, Option.some.injEq, List.toList_toArray, List.getElem?_toArray, List.map_cons, List.map_nil, List.cons_append, List.nil_append, List.append_nil, List.take_succ_cons, List.take_zero, List.drop_succ_cons, List.drop_zero, pv_eql, pv_neq, pv_lss, pv_leq, pv_gtr, pv_geq, pv_add, pv_sub, pv_mul, pv_not, pv_neg, pv_max, pv_min, pv_seql, pv_sneq, pv_slss, pv_sgtr, goInt, decide_true, decide_false, beq_self_eq_true, bne_self_eq_false, Int.toNat_natCast, Int.toNat_zero, Int.toNat_one, Int.natCast_nonneg, Int.ofNat_lt, Int.ofNat_le, Int.natCast_zero, Bool.false_eq_true, Bool.true_eq_false, beq_true, beq_false, rng0, rng1, rng2, rng3, rng4, rng5, rng6, rng7, rng8, any_some', Nat.reducePow, Nat.zero_le, Nat.zero_mul, T.av_cells, T.av_isAgg, avs_length, ints_length, ti3, zi3, un3, ti4, zi4, un4, ti22, ei22, ai22, zi22, un22, ti24, fi24_0, fi24_1, fi24_2, fi24_3, zi24, sp24, ti30, ei30, ai30, zi30, un30, ti31]) | (with_reducible refine codeW_seq_k (fun K hK => ?_)) | (with_reducible refine codeW_block ?_) | (with_reducible refine codeW_ret ?_) | (with_reducible refine codeW_skip ?_) | (with_reducible refine codeW_exit ?_) | (with_reducible refine to_then_normal ?_) | (with_reducible refine to_then_ret ?_) | (with_reducible refine to_then_exit ?_) | (with_reducible refine to_block_normal ?_) | (with_reducible refine to_block_ret ?_) | (with_reducible refine to_block_hit ?_) | (with_reducible refine to_block_miss rfl ?_) | ((with_reducible refine hK _ ?_); clear hK) | (clear hK; (with_reducible refine hK _ ?_); clear hK) | (clear hK; clear hK; (with_reducible refine hK _ ?_); clear hK) | (clear hK; clear hK; clear hK; (with_reducible refine hK _ ?_); clear hK) | (refine codeW_cond rfl ?_; simp only [↓reduceIte, Bool.false_eq_true]) | (intro (b : Bool); cases b))
  simp only [then_ret, block_ret, then_normal, block_normal, BodyQ, aResults, aResult, upd, ↓reduceIte, Nat.reduceEqDiff, Option.some.injEq, exists_eq_left']; first | refine leaves_end (htake _ _) (.keep (.v _)) ⟨rfl, rfl⟩ | refine leaves_end List.take_length (.keep (.v _)) ⟨rfl, rfl⟩

def fS : ByteArray := ⟨#[102]⟩
def tf (a b : Int) : T := T.app fS [T.var a, T.var b]
theorem eqB_self (l : List T) : eqB l l = true := by simp [eqB, cmpL_self]

theorem live_pure : Pure Try.prog 14 [] (.b true) := by
  intro h
  have v := refVar_pure
  have f := fun a b => refFun_pure fS (T.var a) [T.var b] (by simp)
  simp only [avs, fS] at f
  have tfe : ∀ a b, T.app { data := #[102] } [T.var a, T.var b] = tf a b := fun _ _ => rfl
  simp only [tfe] at f
  have ok2 : ∀ n, (T.var n).nds = 1 := fun n => by simp [T.var, T.nds, ndsL]
  have okt : ∀ a b, (tf a b).nds = 3 := fun a b => by simp [tf, T.app, T.nds, ndsL, ok2]
  have es : ByteArray.empty.size = 0 := rfl
  have ef : fS.size = 1 := rfl
  have k1 : ∀ n, i64 n → (T.var n).ok := fun n hn => by simp only [T.var, T.ok, oks, es]; exact ⟨by unfold i64; omega, hn, by omega, trivial⟩
  have k2 : ∀ a b, i64 a → i64 b → (tf a b).ok := fun a b ha hb => by simp only [tf, T.app, T.ok, oks, ef]; exact ⟨by unfold i64; omega, by unfold i64; omega, by omega, k1 a ha, k1 b hb, trivial⟩
  have s1 := shift_pure (tf 0 2) 3 (by unfold i64; omega) (by rw [okt]; omega) (k2 _ _ (by unfold i64; omega) (by unfold i64; omega))
  have e1 : (tf 0 2).map (fun v => sumI v 3) = tf 3 5 := by simp [tf, T.app, T.var, T.map, maps, sumI]
  rw [e1] at s1
  have n1 := number_pure [tf 5 2, T.var 5] (by simp only [ndsL, okt, ok2]; omega) ⟨k2 _ _ (by unfold i64; omega) (by unfold i64; omega), k1 _ (by unfold i64; omega), trivial⟩
  have e2 : ded [] (varss [tf 5 2, T.var 5]) = [5, 2] := by simp [varss, tf, T.app, T.var, T.vars, ded, ins]
  have e3 : numbered [tf 5 2, T.var 5] = [tf 0 1, T.var 0] := by
    unfold numbered
    rw [e2]
    simp [maps, T.map, tf, T.app, T.var, plc]
  rw [e2, e3] at n1
  simp only [avs, ints, List.map_cons, List.map_nil] at n1
  have q1 := refSame_pure (tf 3 5) (tf 3 5) (by rw [okt]; omega)
  rw [cmpT_self] at q1
  have q2 := top_pure [tf 3 5] (by simp only [ndsL, okt]; omega) ⟨k2 _ _ (by unfold i64; omega) (by unfold i64; omega), trivial⟩
  have e4 : tops 0 ([tf 3 5].flatMap occ) = 6 := by simp [occ, tf, T.app, T.var, T.vars, varss, ded, ins, tops, sumI]
  rw [e4] at q2
  simp only [avs] at q2
  have q3 := sameTerms_pure [tf 0 1, T.var 0] [tf 0 1, T.var 0] (by simp only [ndsL, okt, ok2]; omega)
  rw [cmpL_self] at q3
  simp only [avs] at q3
  have q4 := sameInts_pure [5, 2] [5, 2] (by decide) (by decide)
  simp only [ints, List.map_cons, List.map_nil, decide_true] at q4
  have o4 : oks [tf 0 1, T.var 0] := ⟨k2 _ _ (by unfold i64; omega) (by unfold i64; omega), k1 _ (by unfold i64; omega), trivial⟩
  have q5 := variants_pure [tf 0 1, T.var 0] [tf 0 1, T.var 0] (by simp only [ndsL, okt, ok2]; omega) (by simp only [ndsL, okt, ok2]; omega) o4 o4
  rw [eqB_self] at q5
  simp only [avs] at q5
  have z0 : ((0 : Int) == 0) = true := rfl
  simp only [z0] at q1 q3
  refine callW_of_body Try.func14 rfl Try.call14 Try.ntmps14 (congrArg Array.toList Try.results14) (by simp) ?_
  repeat (first | ((first | (with_reducible refine codeW_seq_region (fun K E hK hE => ?_)) | (with_reducible refine codeW_region_k (fun K E hK hE => ?_)) | (with_reducible refine funW_pure (v _) ?_) | (with_reducible refine callA_pure (v _) ?_) | (with_reducible refine funW_pure (f _ _) ?_) | (with_reducible refine callA_pure (f _ _) ?_) | (with_reducible refine funW_pure s1 ?_) | (with_reducible refine callA_pure s1 ?_) | (with_reducible refine funW_pure n1 ?_) | (with_reducible refine callA_pure n1 ?_) | (with_reducible refine funW_pure q1 ?_) | (with_reducible refine callA_pure q1 ?_) | (with_reducible refine funW_pure q2 ?_) | (with_reducible refine callA_pure q2 ?_) | (with_reducible refine funW_pure q3 ?_) | (with_reducible refine callA_pure q3 ?_) | (with_reducible refine funW_pure q4 ?_) | (with_reducible refine callA_pure q4 ?_) | (with_reducible refine funW_pure q5 ?_) | (with_reducible refine callA_pure q5 ?_) | (refine codeW_seq_any (id := 3) [(0, 0), (1, 1), (2, 1), (3, 0), (4, 1), (5, 1), (6, 0), (7, 0), (8, 0), (9, 1), (10, 0), (11, 0), (12, 0), (13, 0), (14, 1), (15, 1), (16, 0), (17, 1), (18, 1), (19, 0), (20, 1), (21, 0), (22, 0), (23, 0), (24, 0), (25, 1), (26, 0), (27, 0), (28, 0), (29, 0), (30, 1), (31, 0), (32, 0)] mixed (by kernel_rfl) (fun K hK => ?_)) | (refine codeW_region_any (id := 3) [(0, 0), (1, 1), (2, 1), (3, 0), (4, 1), (5, 1), (6, 0), (7, 0), (8, 0), (9, 1), (10, 0), (11, 0), (12, 0), (13, 0), (14, 1), (15, 1), (16, 0), (17, 1), (18, 1), (19, 0), (20, 1), (21, 0), (22, 0), (23, 0), (24, 0), (25, 1), (26, 0), (27, 0), (28, 0), (29, 0), (30, 1), (31, 0), (32, 0)] mixed (by kernel_rfl) (fun K hK => ?_))); simp -implicitDefEqProofs only [anyW_nil, anyW_cons, anyO_eq, opsW_nil, opsW_cons, awanted, OpW, contW, aop, undef, nilAsk, List.isEmpty_nil, List.isEmpty_cons, ev_tmp, ev_const, ev_func, AS.ev, put_some, put_none, ofV_int, ofV_bool, ofV_str, ofV_slice, ofV_map, ofV_pointer, ofV_nilFunc, ofV_nilIface, ofV_agg, upd_at, initTm, List.getD_cons_zero, List.getD_cons_succ, AV.cells1, cells_agg, cells_v, cells_sl, cells_pin, cells_ptr, cells_arr, cells_mp, cells_fn, cells_ifc, isAgg_agg, isAgg_v, isAgg_sl, isAgg_pin, isAgg_ptr, isAgg_arr, isAgg_mp, isAgg_fn, isAgg_ifc, List.all_cons, List.all_nil, cell1_int, cell1_bool, cell1_str, cell1_slice, cell1_map, cell1_pointer, cell1_nilFunc, cell1_nilIface, cell1_sl, cell1_pin, cell1_ptr, cell1_arr, cell1_mp, cell1_fn, cell1_ifc, Bool.and_self, Bool.and_true, Bool.true_and, Bool.not_true, Bool.not_false, ↓reduceIte, List.length_cons, List.length_nil, Nat.reduceAdd, Nat.reduceLT, Nat.reduceLeDiff, Nat.reduceEqDiff, Nat.reduceSub, Nat.reduceMul, Nat.zero_add, Nat.add_zero, true_and, and_true, and_self, then_normal, block_normal, aFieldAddr, aLoad, aPart, aStore, aSetPart, aIndexAddr, aBin, aField, aExtract, aBuild, aFill, aBuildSlice, aSlice, boundOf, aLen, aAppend, srcOf, aLookup, aMapUpdate, hget0, hget, hset0, hset, hlen, happ, List.getElem?_cons_zero, List.getElem?_cons_succ, List.getElem?_nil, List.set_cons_zero, List.set_cons_succ, Option.map_some, Option.map_none, Option.bind_some, Option.bind_none, Option.some.injEq, List.toList_toArray, List.getElem?_toArray, List.map_cons, List.map_nil, List.cons_append, List.nil_append, List.append_nil, List.take_succ_cons, List.take_zero, List.drop_succ_cons, List.drop_zero, pv_eql, pv_neq, pv_lss, pv_leq, pv_gtr, pv_geq, pv_add, pv_sub, pv_mul, pv_not, pv_neg, pv_max, pv_min, pv_seql, pv_sneq, pv_slss, pv_sgtr, goInt, decide_true, decide_false, beq_self_eq_true, bne_self_eq_false, Int.toNat_natCast, Int.toNat_zero, Int.toNat_one, Int.natCast_nonneg, Int.ofNat_lt, Int.ofNat_le, Int.natCast_zero, Bool.false_eq_true, Bool.true_eq_false, beq_true, beq_false, rng0, rng1, rng2, rng3, rng4, rng5, rng6, rng7, rng8, any_some', Nat.reducePow, Nat.zero_le, Nat.zero_mul, T.av_cells, T.av_isAgg, avs_length, ints_length, ti0, zi0, ti3, zi3, un3, ti4, zi4, un4, ti22, ei22, ai22, zi22, un22, ti24, fi24_0, fi24_1, fi24_2, fi24_3, zi24, sp24, ti30, ei30, ai30, zi30, un30, ti31]) | (with_reducible refine codeW_seq_k (fun K hK => ?_)) | (with_reducible refine codeW_block ?_) | (with_reducible refine codeW_ret ?_) | (with_reducible refine codeW_skip ?_) | (with_reducible refine codeW_exit ?_) | (with_reducible refine to_then_normal ?_) | (with_reducible refine to_then_ret ?_) | (with_reducible refine to_then_exit ?_) | (with_reducible refine to_block_normal ?_) | (with_reducible refine to_block_ret ?_) | (with_reducible refine to_block_hit ?_) | (with_reducible refine to_block_miss rfl ?_) | ((with_reducible refine hK _ ?_); clear hK) | (clear hK; (with_reducible refine hK _ ?_); clear hK) | (clear hK; clear hK; (with_reducible refine hK _ ?_); clear hK) | (clear hK; clear hK; clear hK; (with_reducible refine hK _ ?_); clear hK) | (refine codeW_cond rfl ?_; simp only [↓reduceIte, Bool.false_eq_true]) | (intro (b : Bool); cases b))
  simp only [then_ret, block_ret, then_normal, block_normal, BodyQ, aResults, aResult, upd, ↓reduceIte, Nat.reduceEqDiff, Option.some.injEq, exists_eq_left']; first | refine leaves_end (htake _ _) (.keep (.v _)) ⟨rfl, rfl⟩ | refine leaves_end List.take_length (.keep (.v _)) ⟨rfl, rfl⟩
end Go.Proofs.Ytplnbmldkgcedaa.Ab
