/-
  Insert where there is no room.
-/
import Derived.Test.YtpfcnfcnljnnlaaAbM2
set_option linter.unusedSimpArgs false
set_option linter.unusedVariables false
set_option maxHeartbeats 4000000
set_option maxRecDepth 4000
namespace Go.Proofs.Ytpfcnfcnljnnlaa.Ab
open Go.Proofs

theorem insert_grow (l : List (Int × T)) (f : Int × T) (h : AH) (id i : Nat) (hb : h[id]? = some (.cells 46 5 (bavs l))) (hi : i < l.length) (hs : l.length ≤ 1000000) :
    CallW Try.prog 69 [.row id 0 l.length l.length, .i i, .sl 5 [bav f] none] h fun o h' => o = .ret (.sl 5 (bavs (insL l i f)) none) ∧ h' = h.set id .dead := by
  refine callW_kill (id := id) ?_
  have hid := lt_of_get hb
  have hbx : ∀ B, (h ++ [B])[id]? = some (.cells 46 5 (bavs l)) := fun B => by rw [List.getElem?_append_left hid]; exact hb
  have h3 : ((1 : Nat) : Int) = 1 := rfl
  have z1 : ((1 : Int) == 0) = false := rfl
  have z2 : ((i : Int) == l.length) = false := by simp; omega
  have hle : (i : Int) ≤ l.length := by omega
  have hlt : (i : Int) < l.length := by omega
  have hpos : (0 : Int) < l.length := by omega
  have hw1 : IntKind.i64.wrap ((l.length : Int) + 1) = ((l.length + 1 : Nat) : Int) := wrap_nat (by omega)
  have hg1 : ((l.length + 1 : Nat) : Int) > (l.length : Int) := by omega
  have hw2 : IntKind.i64.wrap (((l.length + 1 : Nat) : Int) - (i : Int)) = ((l.length + 1 - i : Nat) : Int) := by rw [wrap_id (by omega)]; omega
  have hz : aAppendZ Try.prog 22 3 (.row id 0 i l.length) ((l.length + 1 - i : Nat) : Int) h = some (.arr h.length 0 (i + (l.length + 1 - i)), h ++ [.cells 46 5 ((bavs l).take i ++ blanks 5 (l.length + 1 - i))]) :=
    aAppendZ_eq (e := 46) (q := .i64) (b := 64) (by kernel_rfl) (by kernel_rfl) (by kernel_rfl) hb (by omega) (by rw [bavs_length]; omega) (by omega) (by omega) (by simp only [maxLen]; omega) (by omega)
  have hai : appInfo Try.prog 22 3 = none := by kernel_rfl
  rw [show i + (l.length + 1 - i) = l.length + 1 by omega] at hz
  obtain ⟨X, hX⟩ : ∃ X, X = (bavs l).take i ++ blanks 5 (l.length + 1 - i) := ⟨_, rfl⟩
  rw [← hX] at hz
  have hXl : X.length = l.length + 1 := by rw [hX, List.length_append, List.length_take, bavs_length]; simp [blanks]; omega
  have hXt : X.take i = (bavs l).take i := by rw [hX, List.take_append_of_le_length (by rw [List.length_take, bavs_length]; omega), List.take_take, Nat.min_self]
  have hi1 : i ≤ l.length + 1 := by omega
  have hi2 : i < l.length + 1 := by omega
  have hi3 : i ≤ l.length := by omega
  have hi4 : i + 1 < l.length + 1 := by omega
  have hi5 : i + 1 ≤ l.length + 1 := by omega
  have hX1 : (X.take i ++ [bav f] ++ X.drop (i + 1)).length = l.length + 1 := by simp [hXl]; omega
  have ht1 : (((l.length + 1 : Nat) : Int) - (i : Int)).toNat = l.length + 1 - i := by omega
  have ht2 : ((l.length : Int) - (i : Int)).toNat = l.length - i := by omega
  have ht3 : (((l.length + 1 : Nat) : Int) - ((i + 1 : Nat) : Int)).toNat = l.length - i := by omega
  have hmin : min 1 (l.length + 1 - i) = 1 := by omega
  have hw3 : IntKind.i64.wrap ((i : Int) + 1) = ((i + 1 : Nat) : Int) := wrap_nat (by omega)
  have hdl : ((bavs l).drop i).length = l.length - i := by rw [List.length_drop, bavs_length]
  refine callW_of_body Try.func69 rfl Try.call69 Try.ntmps69 (congrArg Array.toList Try.results69) (by simp) ?_
  repeat (first | ((first | (with_reducible refine codeW_seq_region (fun K E hK hE => ?_)) | (with_reducible refine codeW_region_k (fun K E hK hE => ?_)) | (refine codeW_seq_any (id := 11) [(0, 0), (1, 0), (2, 0), (3, 0), (4, 0), (5, 0), (6, 0), (7, 0), (8, 2)] mixed (by kernel_rfl) (fun K hK => ?_)) | (refine codeW_region_any (id := 11) [(0, 0), (1, 0), (2, 0), (3, 0), (4, 0), (5, 0), (6, 0), (7, 0), (8, 2)] mixed (by kernel_rfl) (fun K hK => ?_)) | (refine codeW_seq_any (id := 15) [(0, 0), (1, 0), (2, 0), (3, 0), (4, 0), (5, 0), (6, 0), (7, 0), (8, 2)] mixed (by kernel_rfl) (fun K hK => ?_)) | (refine codeW_region_any (id := 15) [(0, 0), (1, 0), (2, 0), (3, 0), (4, 0), (5, 0), (6, 0), (7, 0), (8, 2)] mixed (by kernel_rfl) (fun K hK => ?_))); simp -implicitDefEqProofs only [anyW_nil, anyW_cons, anyO_eq, opsW_nil, opsW_cons, awanted, OpW, contW, aop, undef, nilAsk, List.isEmpty_nil, List.isEmpty_cons, ev_tmp, ev_const, ev_func, AS.ev, put_some, put_none, ofV_int, ofV_bool, ofV_str, ofV_slice, ofV_map, ofV_pointer, ofV_nilFunc, ofV_nilIface, ofV_agg, upd_at, initTm, List.getD_cons_zero, List.getD_cons_succ, AV.cells1, cells_agg, cells_v, cells_sl, cells_pin, cells_ptr, cells_arr, cells_mp, cells_fn, cells_ifc, isAgg_agg, isAgg_v, isAgg_sl, isAgg_pin, isAgg_ptr, isAgg_arr, isAgg_mp, isAgg_fn, isAgg_ifc, List.all_cons, List.all_nil, cell1_int, cell1_bool, cell1_str, cell1_slice, cell1_map, cell1_pointer, cell1_nilFunc, cell1_nilIface, cell1_sl, cell1_pin, cell1_ptr, cell1_arr, cell1_mp, cell1_fn, cell1_ifc, Bool.and_self, Bool.and_true, Bool.true_and, Bool.not_true, Bool.not_false, ↓reduceIte, List.length_cons, List.length_nil, Nat.reduceAdd, Nat.reduceLT, Nat.reduceLeDiff, Nat.reduceEqDiff, Nat.reduceSub, Nat.reduceMul, Nat.zero_add, Nat.add_zero, true_and, and_true, and_self, then_normal, block_normal, aFieldAddr, aLoad, aPart, aStore, aSetPart, aIndexAddr, aBin, aField, aExtract, aBuild, aFill, aBuildSlice, aSlice, boundOf, aLen, aAppend, srcOf, aLookup, aMapUpdate, hget0, hget, hset0, hset, hlen, happ, List.getElem?_cons_zero, List.getElem?_cons_succ, List.getElem?_nil, List.set_cons_zero, List.set_cons_succ, Option.map_some, Option.map_none, Option.bind_some, Option.bind_none, Option.some.injEq, List.toList_toArray, List.getElem?_toArray, List.map_cons, List.map_nil, List.cons_append, List.nil_append, List.append_nil, List.take_succ_cons, List.take_zero, List.drop_succ_cons, List.drop_zero, pv_eql, pv_neq, pv_lss, pv_leq, pv_gtr, pv_geq, pv_add, pv_sub, pv_mul, pv_not, pv_neg, pv_max, pv_min, pv_seql, pv_sneq, pv_slss, pv_sgtr, goInt, decide_true, decide_false, beq_self_eq_true, bne_self_eq_false, Int.toNat_natCast, Int.toNat_zero, Int.toNat_one, Int.natCast_nonneg, Int.ofNat_lt, Int.ofNat_le, Int.natCast_zero, Bool.false_eq_true, Bool.true_eq_false, beq_true, beq_false, rng0, rng1, rng2, rng3, rng4, rng5, rng6, rng7, rng8, any_some', Nat.reducePow, Nat.zero_le, Nat.zero_mul, T.av_cells, T.av_isAgg, avs_length, ints_length, ti0, zi0, ti3, zi3, un3, ti4, zi4, un4, ti22, ei22, ai22, zi22, un22, ti46, fi46_0, fi46_1, zi46, sp46, aCap, aCopy, rowOf, srcRow, aopR, aAppendR, cells_row, isAgg_row, cell1_row, Nat.sub_zero, bav_cells, bav_isAgg, bavs_length, Int.le_refl, Int.sub_zero, hb, hbx, h3, z1, z2, hle, hlt, hpos, hw1, hg1, hw2, hz, hai, hXl, hi, hi1, hi2, hi3, hi4, hi5, hX1, ht1, ht2, ht3, hmin, hw3, hdl, Nat.min_self, Nat.le_refl]) | (with_reducible refine codeW_seq_k (fun K hK => ?_)) | (with_reducible refine codeW_block ?_) | (with_reducible refine codeW_ret ?_) | (with_reducible refine codeW_label ?_) | (with_reducible refine codeW_scope ?_) | (with_reducible refine codeW_skip ?_) | (with_reducible refine codeW_exit ?_) | (with_reducible refine to_then_normal ?_) | (with_reducible refine to_then_ret ?_) | (with_reducible refine to_then_exit ?_) | (with_reducible refine to_block_normal ?_) | (with_reducible refine to_block_ret ?_) | (with_reducible refine to_block_hit ?_) | (with_reducible refine to_block_miss rfl ?_) | ((with_reducible refine hK _ ?_); clear hK) | (clear hK; (with_reducible refine hK _ ?_); clear hK) | (clear hK; clear hK; (with_reducible refine hK _ ?_); clear hK) | (clear hK; clear hK; clear hK; (with_reducible refine hK _ ?_); clear hK) | (refine codeW_cond rfl ?_; simp only [↓reduceIte, Bool.false_eq_true]) | (intro (b : Bool); cases b))
  simp only [then_ret, block_ret, then_normal, block_normal, BodyQ, aResults, aResult, upd, ↓reduceIte, Nat.reduceEqDiff, Option.some.injEq, exists_eq_left']
  have hY : (X.take i ++ [bav f] ++ X.drop (i + 1)).take (i + 1) ++ ((bavs l).drop i).take (l.length - i) ++ (X.take i ++ [bav f] ++ X.drop (i + 1)).drop (i + 1 + (l.length - i)) = bavs (insL l i f) := by
    have hd0 : (X.take i ++ [bav f] ++ X.drop (i + 1)).drop (i + 1 + (l.length - i)) = [] := List.drop_eq_nil_of_le (by rw [hX1]; omega)
    have hd1 : ((bavs l).drop i).take (l.length - i) = (bavs l).drop i := List.take_of_length_le (by rw [hdl]; omega)
    rw [hd0, List.append_nil, hd1]
    have htl : (X.take i ++ [bav f]).length = i + 1 := by rw [List.length_append, List.length_take, hXl]; simp; omega
    rw [List.take_append_of_le_length (by rw [htl]; omega), List.take_of_length_le (by rw [htl]; omega), hXt, insL, bavs_append, bavs_append, bavs_take, bavs_drop, bavs_one]
  rw [hY]
  have hil : (bavs (insL l i f)).length = l.length + 1 := by rw [bavs_length, insL]; simp; omega
  have hk := Frz.arr (h := h ++ [.cells 46 5 (bavs (insL l i f))]) (m := h.length) (id := h.length) (lo := 0) (len := l.length + 1) (ty := 46) (s := 5) (xs := bavs (insL l i f)) (Nat.le_refl _) (by simp) (by rw [hil]; omega) (bavs_flat _ _)
  rw [List.drop_zero, List.take_of_length_le (by rw [hil]; omega)] at hk
  exact leaves_end (htake _ _) hk ⟨_, 46, 5, bavs l, rfl, hb, .keep _, rfl⟩
end Go.Proofs.Ytpfcnfcnljnnlaa.Ab
