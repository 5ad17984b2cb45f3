/-
  The program's shift, over terms of at most a million nodes.
-/
import Derived.Test.YtplnbmldkgcedaaAbWe
import Derived.Test.YtplnbmldkgcedaaAbWr
set_option linter.unusedSimpArgs false
set_option linter.unusedVariables false
set_option maxHeartbeats 4000000
set_option maxRecDepth 4000
namespace Go.Proofs.Ytplnbmldkgcedaa.Ab
open Go.Proofs

def byV (k : Int) : AV := .fn (.func 67) [] [.pin 1 [.i k] 0 0]
def gBy (k : Int) : Unit → Int → Int × Unit := fun _ n => (sumI n k, ())

theorem sumI_ok {n k : Int} (hn : i64 n) (hk : i64 k) : i64 (sumI n k) := by
  unfold i64 at *
  unfold sumI
  split <;> omega

theorem visOk_by (k : Int) (hk : i64 k) : VisOk Try.prog (byV k) (fun _ => []) (gBy k) (fun _ _ => True) 0 where
  len := fun _ => rfl
  vis := fun s n L hi => funW_cl (by1_pure n k hi.2 hk) ⟨rfl, rfl⟩
  room := ⟨fun _ _ _ _ => trivial, fun _ _ _ _ _ => trivial⟩
  old := fun _ _ i b h => by simp at h

mutual
theorem mapS_by (k : Int) : ∀ t : T, T.mapS (gBy k) () t = (t.map fun v => sumI v k, ())
  | .mk kd i nm l => by
    simp only [T.mapS, T.map, mapsS_by k l, gBy]
    split
    · rfl
    · split <;> rfl
theorem mapsS_by (k : Int) : ∀ l : List T, mapsS (gBy k) () l = (maps (fun v => sumI v k) l, ())
  | [] => rfl
  | t :: l => by simp only [mapsS, maps, mapS_by k t, mapsS_by k l]
end

theorem renameBy_pure (k : Int) (hk : i64 k) (t : T) (hn : t.nds ≤ 1000000) (ho : t.ok) : Pure Try.prog 37 [t.av, byV k] (t.map fun v => sumI v k).av := by
  intro h
  have := rename_all (visOk_by k hk) 1000000 (Nat.le_refl _) t () h hn ho trivial
  rw [mapS_by] at this
  exact this
theorem renamedBy_pure (k : Int) (hk : i64 k) (l : List T) (hn : ndsL l ≤ 1000000) (ho : oks l) : Pure Try.prog 42 [.sl 4 (avs l) none, byV k] (.sl 4 (avs (maps (fun v => sumI v k) l)) none) := by
  intro h
  have := renamed_all (visOk_by k hk) l () h hn ho trivial
  rw [mapsS_by] at this
  exact this

theorem shift_pure (t : T) (k : Int) (hk : i64 k) (hn : t.nds ≤ 1000000) (ho : t.ok) : Pure Try.prog 12 [t.av, .i k] (t.map fun v => sumI v k).av := by
  intro h
  have c1 := by_pure k
  have c2 := renameBy_pure k hk t hn ho
  unfold byV at c2
  refine callW_of_body Try.func12 rfl Try.call12 Try.ntmps12 (congrArg Array.toList Try.results12) (by simp) ?_
  repeat (first | ((first | (with_reducible refine codeW_seq_region (fun K E hK hE => ?_)) | (with_reducible refine codeW_region_k (fun K E hK hE => ?_)) | (with_reducible refine funW_pure c1 ?_) | (with_reducible refine callA_pure c1 ?_) | (with_reducible refine funW_pure c2 ?_) | (with_reducible refine callA_pure c2 ?_) | (refine codeW_seq_any (id := 1) [(0, 0), (1, 0), (2, 1), (3, 1), (4, 2)] mixed (by kernel_rfl) (fun K hK => ?_)) | (refine codeW_region_any (id := 1) [(0, 0), (1, 0), (2, 1), (3, 1), (4, 2)] mixed (by kernel_rfl) (fun K hK => ?_))); simp -implicitDefEqProofs only [anyW_nil, anyW_cons, anyO_eq, opsW_nil, opsW_cons, awanted, OpW, contW, aop, undef, nilAsk, List.isEmpty_nil, List.isEmpty_cons, ev_tmp, ev_const, ev_func, AS.ev, put_some, put_none, ofV_int, ofV_bool, ofV_str, ofV_slice, ofV_map, ofV_pointer, ofV_nilFunc, ofV_nilIface, ofV_agg, upd_at, initTm, List.getD_cons_zero, List.getD_cons_succ, AV.cells1, cells_agg, cells_v, cells_sl, cells_pin, cells_ptr, cells_arr, cells_mp, cells_fn, cells_ifc, isAgg_agg, isAgg_v, isAgg_sl, isAgg_pin, isAgg_ptr, isAgg_arr, isAgg_mp, isAgg_fn, isAgg_ifc, List.all_cons, List.all_nil, cell1_int, cell1_bool, cell1_str, cell1_slice, cell1_map, cell1_pointer, cell1_nilFunc, cell1_nilIface, cell1_sl, cell1_pin, cell1_ptr, cell1_arr, cell1_mp, cell1_fn, cell1_ifc, Bool.and_self, Bool.and_true, Bool.true_and, Bool.not_true, Bool.not_false, ↓reduceIte, List.length_cons, List.length_nil, Nat.reduceAdd, Nat.reduceLT, Nat.reduceLeDiff, Nat.reduceEqDiff, Nat.reduceSub, Nat.reduceMul, Nat.zero_add, Nat.add_zero, true_and, and_true, and_self, then_normal, block_normal, aFieldAddr, aLoad, aPart, aStore, aSetPart, aIndexAddr, aBin, aField, aExtract, aBuild, aFill, aBuildSlice, aSlice, boundOf, aLen, aAppend, srcOf, aLookup, aMapUpdate, hget0, hget, hset0, hset, hlen, happ, List.getElem?_cons_zero, List.getElem?_cons_succ, List.getElem?_nil, List.set_cons_zero, List.set_cons_succ, Option.map_some, Option.map_none, Option.bind_some, Option.bind_none, Option.some.injEq, List.toList_toArray, List.getElem?_toArray, List.map_cons, List.map_nil, List.cons_append, List.nil_append, List.append_nil, List.take_succ_cons, List.take_zero, List.drop_succ_cons, List.drop_zero, pv_eql, pv_neq, pv_lss, pv_leq, pv_gtr, pv_geq, pv_add, pv_sub, pv_mul, pv_not, pv_neg, pv_max, pv_min, pv_seql, pv_sneq, pv_slss, pv_sgtr, goInt, decide_true, decide_false, beq_self_eq_true, bne_self_eq_false, Int.toNat_natCast, Int.toNat_zero, Int.toNat_one, Int.natCast_nonneg, Int.ofNat_lt, Int.ofNat_le, Int.natCast_zero, Bool.false_eq_true, Bool.true_eq_false, beq_true, beq_false, rng0, rng1, rng2, rng3, rng4, rng5, rng6, rng7, rng8, any_some', Nat.reducePow, Nat.zero_le, Nat.zero_mul, T.av_cells, T.av_isAgg, avs_length, ints_length, ti0, zi0, ti3, zi3, un3, ti24, fi24_0, fi24_1, fi24_2, fi24_3, zi24, sp24, ti59, zi59]) | (with_reducible refine codeW_seq_k (fun K hK => ?_)) | (with_reducible refine codeW_block ?_) | (with_reducible refine codeW_ret ?_) | (with_reducible refine codeW_skip ?_) | (with_reducible refine codeW_exit ?_) | (with_reducible refine to_then_normal ?_) | (with_reducible refine to_then_ret ?_) | (with_reducible refine to_then_exit ?_) | (with_reducible refine to_block_normal ?_) | (with_reducible refine to_block_ret ?_) | (with_reducible refine to_block_hit ?_) | (with_reducible refine to_block_miss rfl ?_) | ((with_reducible refine hK _ ?_); clear hK) | (clear hK; (with_reducible refine hK _ ?_); clear hK) | (clear hK; clear hK; (with_reducible refine hK _ ?_); clear hK) | (clear hK; clear hK; clear hK; (with_reducible refine hK _ ?_); clear hK) | (refine codeW_cond rfl ?_; simp only [↓reduceIte, Bool.false_eq_true]) | (intro (b : Bool); cases b))
  simp -implicitDefEqProofs only [anyW_nil, anyW_cons, anyO_eq, opsW_nil, opsW_cons, awanted, OpW, contW, aop, undef, nilAsk, List.isEmpty_nil, List.isEmpty_cons, ev_tmp, ev_const, ev_func, AS.ev, put_some, put_none, ofV_int, ofV_bool, ofV_str, ofV_slice, ofV_map, ofV_pointer, ofV_nilFunc, ofV_nilIface, ofV_agg, upd_at, initTm, List.getD_cons_zero, List.getD_cons_succ, AV.cells1, cells_agg, cells_v, cells_sl, cells_pin, cells_ptr, cells_arr, cells_mp, cells_fn, cells_ifc, isAgg_agg, isAgg_v, isAgg_sl, isAgg_pin, isAgg_ptr, isAgg_arr, isAgg_mp, isAgg_fn, isAgg_ifc, List.all_cons, List.all_nil, cell1_int, cell1_bool, cell1_str, cell1_slice, cell1_map, cell1_pointer, cell1_nilFunc, cell1_nilIface, cell1_sl, cell1_pin, cell1_ptr, cell1_arr, cell1_mp, cell1_fn, cell1_ifc, Bool.and_self, Bool.and_true, Bool.true_and, Bool.not_true, Bool.not_false, ↓reduceIte, List.length_cons, List.length_nil, Nat.reduceAdd, Nat.reduceLT, Nat.reduceLeDiff, Nat.reduceEqDiff, Nat.reduceSub, Nat.reduceMul, Nat.zero_add, Nat.add_zero, true_and, and_true, and_self, then_normal, block_normal, aFieldAddr, aLoad, aPart, aStore, aSetPart, aIndexAddr, aBin, aField, aExtract, aBuild, aFill, aBuildSlice, aSlice, boundOf, aLen, aAppend, srcOf, aLookup, aMapUpdate, hget0, hget, hset0, hset, hlen, happ, List.getElem?_cons_zero, List.getElem?_cons_succ, List.getElem?_nil, List.set_cons_zero, List.set_cons_succ, Option.map_some, Option.map_none, Option.bind_some, Option.bind_none, Option.some.injEq, List.toList_toArray, List.getElem?_toArray, List.map_cons, List.map_nil, List.cons_append, List.nil_append, List.append_nil, List.take_succ_cons, List.take_zero, List.drop_succ_cons, List.drop_zero, pv_eql, pv_neq, pv_lss, pv_leq, pv_gtr, pv_geq, pv_add, pv_sub, pv_mul, pv_not, pv_neg, pv_max, pv_min, pv_seql, pv_sneq, pv_slss, pv_sgtr, goInt, decide_true, decide_false, beq_self_eq_true, bne_self_eq_false, Int.toNat_natCast, Int.toNat_zero, Int.toNat_one, Int.natCast_nonneg, Int.ofNat_lt, Int.ofNat_le, Int.natCast_zero, Bool.false_eq_true, Bool.true_eq_false, beq_true, beq_false, rng0, rng1, rng2, rng3, rng4, rng5, rng6, rng7, rng8, any_some', Nat.reducePow, Nat.zero_le, Nat.zero_mul, T.av_cells, T.av_isAgg, avs_length, ints_length, ti0, zi0, ti3, zi3, un3, ti24, fi24_0, fi24_1, fi24_2, fi24_3, zi24, sp24, ti59, zi59, then_ret, block_ret, then_normal, block_normal, BodyQ, aResults, aResult, exists_eq_left']
  exact leaves_end (htake _ _) (.keep (T.av_below _ _)) ⟨rfl, rfl⟩
end Go.Proofs.Ytplnbmldkgcedaa.Ab
