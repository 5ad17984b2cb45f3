/-
  Insert where there is room.
-/
import Derived.Test.YtpfcnfcnljnnlaaAbM2
set_option linter.unusedSimpArgs false
set_option linter.unusedVariables false
set_option maxHeartbeats 4000000
set_option maxRecDepth 4000
namespace Go.Proofs.Ytpfcnfcnljnnlaa.Ab
open Go.Proofs

theorem insert_room (l : List (Int × T)) (f : Int × T) (h : AH) (id i cap : Nat) (hb : h[id]? = some (.cells 46 5 (bavs l))) (hi : i < l.length) (hs : l.length ≤ 1000000) (hc : l.length + 1 ≤ cap) (hc2 : cap ≤ maxLen) :
    CallW Try.prog 69 [.row id 0 l.length cap, .i i, .sl 5 [bav f] none] h fun o h' => o = .ret (.sl 5 (bavs (insL l i f)) none) ∧ h' = h.set id .dead := by
  refine callW_kill (id := id) ?_
  have hid := lt_of_get hb
  have hbx : ∀ B, (h.set id B)[id]? = some B := fun B => by rw [List.getElem?_set_self hid]
  have hsx : ∀ B B', (h.set id B).set id B' = h.set id B' := fun B B' => by rw [List.set_set]
  have h3 : ((1 : Nat) : Int) = 1 := rfl
  have z1 : ((1 : Int) == 0) = false := rfl
  have z2 : ((i : Int) == l.length) = false := by simp; omega
  have c0 : ∀ k : Nat, k ≤ l.length + 1 → (k : Int) ≤ (cap : Int) := fun k hk => by omega
  have hle : (i : Int) ≤ l.length := by omega
  have hlc : (l.length : Int) ≤ cap := by omega
  have hlt : (i : Int) < l.length := by omega
  have hic : (i : Int) < cap := by omega
  have hpos : (0 : Int) < cap := by omega
  have hw1 : IntKind.i64.wrap ((l.length : Int) + 1) = ((l.length + 1 : Nat) : Int) := wrap_nat (by omega)
  have hg1 : ¬ ((l.length + 1 : Nat) : Int) > (cap : Int) := by omega
  have hw3 : IntKind.i64.wrap ((i : Int) + 1) = ((i + 1 : Nat) : Int) := wrap_nat (by omega)
  have n1 : l.length + 1 ≤ cap := hc
  have n2 : i + 1 ≤ l.length + 1 := by omega
  have n3 : i + 1 < cap := by omega
  have n4 : i ≤ l.length + 1 := by omega
  have n5 : i < cap := by omega
  have n6 : 0 < cap := by omega
  have n7 : i ≤ l.length := by omega
  have n8 : l.length ≤ cap := by omega
  have n9 : i + 1 ≤ l.length := by omega
  have hY1 : ((bavs l).take (i + 1) ++ ((bavs l).drop i).take (l.length - i) ++ (bavs l).drop (i + 1 + (l.length - i))).length = l.length + 1 := by simp only [List.length_append, List.length_take, List.length_drop, bavs_length]; omega
  have ht1 : (((l.length + 1 : Nat) : Int) - (i : Int)).toNat = l.length + 1 - i := by omega
  have ht2 : ((l.length : Int) - (i : Int)).toNat = l.length - i := by omega
  have ht3 : (((l.length + 1 : Nat) : Int) - ((i + 1 : Nat) : Int)).toNat = l.length - i := by omega
  have hdl : ((bavs l).drop i).length = l.length - i := by rw [List.length_drop, bavs_length]
  have hm1 : min (l.length + 1 - i) (l.length - i) = l.length - i := by omega
  have hm2 : min 1 (l.length + 1 - i) = 1 := by omega
  have co : ∀ lo len cap, FunW Try.prog (.fn (.func 75) [] []) [.sl 5 [bav f] none, .row id lo len cap] h fun o h' => o = .ret (.v (.bool false)) ∧ h' = h := fun lo len cap =>
    funW_overlaps (tS := 22) (tR := 4) (e := 46) (size := 5) Try.func75 (by kernel_rfl) (by kernel_rfl) (by kernel_rfl) (by kernel_rfl) (by kernel_rfl) hb (by omega) (by intro y hy; rw [List.mem_singleton.1 hy]; rfl)
  refine callW_of_body Try.func69 rfl Try.call69 Try.ntmps69 (congrArg Array.toList Try.results69) (by simp) ?_
  repeat (first | ((first | (with_reducible refine codeW_seq_region (fun K E hK hE => ?_)) | (with_reducible refine codeW_region_k (fun K E hK hE => ?_)) | (with_reducible refine FunW.ret (co _ _ _) ?_) | (refine codeW_seq_any (id := 11) [(0, 0), (1, 0), (2, 0), (3, 0), (4, 0), (5, 0), (6, 0), (7, 0), (8, 2)] mixed (by kernel_rfl) (fun K hK => ?_)) | (refine codeW_region_any (id := 11) [(0, 0), (1, 0), (2, 0), (3, 0), (4, 0), (5, 0), (6, 0), (7, 0), (8, 2)] mixed (by kernel_rfl) (fun K hK => ?_)) | (refine codeW_seq_any (id := 15) [(0, 0), (1, 0), (2, 0), (3, 0), (4, 0), (5, 0), (6, 0), (7, 0), (8, 2)] mixed (by kernel_rfl) (fun K hK => ?_)) | (refine codeW_region_any (id := 15) [(0, 0), (1, 0), (2, 0), (3, 0), (4, 0), (5, 0), (6, 0), (7, 0), (8, 2)] mixed (by kernel_rfl) (fun K hK => ?_))); simp -implicitDefEqProofs only [anyW_nil, anyW_cons, anyO_eq, opsW_nil, opsW_cons, awanted, OpW, contW, aop, undef, nilAsk, List.isEmpty_nil, List.isEmpty_cons, ev_tmp, ev_const, ev_func, AS.ev, put_some, put_none, ofV_int, ofV_bool, ofV_str, ofV_slice, ofV_map, ofV_pointer, ofV_nilFunc, ofV_nilIface, ofV_agg, upd_at, initTm, List.getD_cons_zero, List.getD_cons_succ, AV.cells1, cells_agg, cells_v, cells_sl, cells_pin, cells_ptr, cells_arr, cells_mp, cells_fn, cells_ifc, isAgg_agg, isAgg_v, isAgg_sl, isAgg_pin, isAgg_ptr, isAgg_arr, isAgg_mp, isAgg_fn, isAgg_ifc, List.all_cons, List.all_nil, cell1_int, cell1_bool, cell1_str, cell1_slice, cell1_map, cell1_pointer, cell1_nilFunc, cell1_nilIface, cell1_sl, cell1_pin, cell1_ptr, cell1_arr, cell1_mp, cell1_fn, cell1_ifc, Bool.and_self, Bool.and_true, Bool.true_and, Bool.not_true, Bool.not_false, ↓reduceIte, List.length_cons, List.length_nil, Nat.reduceAdd, Nat.reduceLT, Nat.reduceLeDiff, Nat.reduceEqDiff, Nat.reduceSub, Nat.reduceMul, Nat.zero_add, Nat.add_zero, true_and, and_true, and_self, then_normal, block_normal, aFieldAddr, aLoad, aPart, aStore, aSetPart, aIndexAddr, aBin, aField, aExtract, aBuild, aFill, aBuildSlice, aSlice, boundOf, aLen, aAppend, srcOf, aLookup, aMapUpdate, hget0, hget, hset0, hset, hlen, happ, List.getElem?_cons_zero, List.getElem?_cons_succ, List.getElem?_nil, List.set_cons_zero, List.set_cons_succ, Option.map_some, Option.map_none, Option.bind_some, Option.bind_none, Option.some.injEq, List.toList_toArray, List.getElem?_toArray, List.map_cons, List.map_nil, List.cons_append, List.nil_append, List.append_nil, List.take_succ_cons, List.take_zero, List.drop_succ_cons, List.drop_zero, pv_eql, pv_neq, pv_lss, pv_leq, pv_gtr, pv_geq, pv_add, pv_sub, pv_mul, pv_not, pv_neg, pv_max, pv_min, pv_seql, pv_sneq, pv_slss, pv_sgtr, goInt, decide_true, decide_false, beq_self_eq_true, bne_self_eq_false, Int.toNat_natCast, Int.toNat_zero, Int.toNat_one, Int.natCast_nonneg, Int.ofNat_lt, Int.ofNat_le, Int.natCast_zero, Bool.false_eq_true, Bool.true_eq_false, beq_true, beq_false, rng0, rng1, rng2, rng3, rng4, rng5, rng6, rng7, rng8, any_some', Nat.reducePow, Nat.zero_le, Nat.zero_mul, T.av_cells, T.av_isAgg, avs_length, ints_length, ti0, zi0, ti3, zi3, un3, ti4, zi4, un4, ti22, ei22, ai22, zi22, un22, ti46, fi46_0, fi46_1, zi46, sp46, aCap, aCopy, rowOf, srcRow, aopR, aAppendR, cells_row, isAgg_row, cell1_row, Nat.sub_zero, bav_cells, bav_isAgg, bavs_length, Int.le_refl, Int.sub_zero, hb, hbx, hsx, h3, z1, z2, hle, hlc, hlt, hic, hpos, hw1, hg1, hw3, n1, n2, n3, n4, n5, n6, n7, n8, n9, hY1, ht1, ht2, ht3, hdl, hm1, hm2, Nat.le_refl]) | (with_reducible refine codeW_seq_k (fun K hK => ?_)) | (with_reducible refine codeW_block ?_) | (with_reducible refine codeW_ret ?_) | (with_reducible refine codeW_label ?_) | (with_reducible refine codeW_scope ?_) | (with_reducible refine codeW_skip ?_) | (with_reducible refine codeW_exit ?_) | (with_reducible refine to_then_normal ?_) | (with_reducible refine to_then_ret ?_) | (with_reducible refine to_then_exit ?_) | (with_reducible refine to_block_normal ?_) | (with_reducible refine to_block_ret ?_) | (with_reducible refine to_block_hit ?_) | (with_reducible refine to_block_miss rfl ?_) | ((with_reducible refine hK _ ?_); clear hK) | (clear hK; (with_reducible refine hK _ ?_); clear hK) | (clear hK; clear hK; (with_reducible refine hK _ ?_); clear hK) | (clear hK; clear hK; clear hK; (with_reducible refine hK _ ?_); clear hK) | (refine codeW_cond rfl ?_; simp only [↓reduceIte, Bool.false_eq_true]) | (intro (b : Bool); cases b))
  simp only [then_ret, block_ret, then_normal, block_normal, BodyQ, aResults, aResult, upd, ↓reduceIte, Nat.reduceEqDiff, Option.some.injEq, exists_eq_left']
  have hY : (bavs l).take (i + 1) ++ ((bavs l).drop i).take (l.length - i) ++ (bavs l).drop (i + 1 + (l.length - i)) = (bavs l).take (i + 1) ++ (bavs l).drop i := by
    have hd0 : (bavs l).drop (i + 1 + (l.length - i)) = [] := List.drop_eq_nil_of_le (by rw [bavs_length]; omega)
    have hd1 : ((bavs l).drop i).take (l.length - i) = (bavs l).drop i := List.take_of_length_le (by rw [hdl]; omega)
    rw [hd0, List.append_nil, hd1]
  have htl : ((bavs l).take (i + 1)).length = i + 1 := by rw [List.length_take, bavs_length]; omega
  have hT : ((bavs l).take (i + 1) ++ (bavs l).drop i).take i = (bavs l).take i := by
    rw [List.take_append_of_le_length (by rw [htl]; omega), List.take_take, Nat.min_eq_left (by omega)]
  have hD : ((bavs l).take (i + 1) ++ (bavs l).drop i).drop (i + 1) = (bavs l).drop i := by
    rw [List.drop_append_of_le_length (by rw [htl]; omega), List.drop_of_length_le (by rw [htl]; omega), List.nil_append]
  have hF : (bavs l).take i ++ [bav f] ++ (bavs l).drop i = bavs (insL l i f) := by rw [insL, bavs_append, bavs_append, bavs_take, bavs_drop, bavs_one]
  rw [hY, hT, hD, hF]
  have hil : (bavs (insL l i f)).length = l.length + 1 := by rw [bavs_length, insL]; simp; omega
  refine leaves_all ⟨_, 46, 5, bavs (insL l i f), rfl, hbx _, ?_, by rw [hsx]⟩
  have hk := Kill.row (h := h.set id (.cells 46 5 (bavs (insL l i f)))) (id := id) (lo := 0) (len := l.length + 1) (cap := cap) (ty := 46) (s := 5) (xs := bavs (insL l i f)) (hbx _) (by rw [hil]; omega)
  rwa [List.drop_zero, List.take_of_length_le (by rw [hil]; omega)] at hk
end Go.Proofs.Ytpfcnfcnljnnlaa.Ab
