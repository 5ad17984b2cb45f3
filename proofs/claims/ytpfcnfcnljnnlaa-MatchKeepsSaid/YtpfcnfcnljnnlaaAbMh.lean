/-
  Matching as a recursion; the program's work list.
-/
import Derived.Test.YtpfcnfcnljnnlaaAbMg
set_option linter.unusedSimpArgs false
set_option linter.unusedVariables false
set_option maxHeartbeats 4000000
set_option maxRecDepth 4000
-- @lean
namespace Go.Proofs.Ytpfcnfcnljnnlaa.Ab
open Go.Proofs

/-! matching, as a recursion -/
abbrev Env := List (Int × T)
mutual
def matT (env : Env) : T → T → Option Env
  | .mk k i n l, t =>
    if k = 2 then if t.kind = 2 ∧ t.name.toList = n.toList ∧ t.args.length = l.length then matL env l t.args else none
    else if k = 1 then match idxP (fun b => b.1 == i) env with
      | some j => match env[j]? with
        | some b => if (cmpT b.2 t == 0) = true then some env else none
        | none => none
      | none => some (ext env (i, t))
    else if (cmpT (.mk k i n l) t == 0) = true then some env else none
def matL (env : Env) : List T → List T → Option Env
  | a :: l, b :: m => match matT env a b with
    | some e => matL e l m
    | none => none
  | [], _ => some env
  | _ :: _, [] => some env
end
theorem matT_eq (env : Env) (p t : T) : matT env p t =
    if p.kind = 2 then if t.kind = 2 ∧ t.name.toList = p.name.toList ∧ t.args.length = p.args.length then matL env p.args t.args else none
    else if p.kind = 1 then match idxP (fun b => b.1 == p.int) env with
      | some j => match env[j]? with
        | some b => if (cmpT b.2 t == 0) = true then some env else none
        | none => none
      | none => some (ext env (p.int, t))
    else if (cmpT p t == 0) = true then some env else none := by
  cases p; simp only [matT, T.kind, T.int, T.name, T.args]; rfl

def matP (env : Env) : List (T × T) → Option Env
  | [] => some env
  | p :: ps => match matT env p.1 p.2 with
    | some e => matP e ps
    | none => none
theorem matP_zip : ∀ (l m : List T) (env : Env), matP env (l.zip m) = matL env l m
  | [], m, env => by simp only [List.zip_nil_left, matP, matL]
  | _ :: _, [], env => by simp only [List.zip_nil_right, matP, matL]
  | a :: l, b :: m, env => by
    simp only [List.zip_cons_cons, matP, matL]
    cases matT env a b with
    | some e => exact matP_zip l m e
    | none => rfl
theorem matP_append : ∀ (ps qs : List (T × T)) (env : Env), matP env (ps ++ qs) = match matP env ps with | some e => matP e qs | none => none
  | [], qs, env => rfl
  | p :: ps, qs, env => by
    simp only [List.cons_append, matP]
    cases matT env p.1 p.2 with
    | some e => exact matP_append ps qs e
    | none => rfl
theorem matP_step (env : Env) (p : T × T) (ps : List (T × T)) : matP env (p :: ps) = if (stepM env p).2.2 = true then matP (stepM env p).1 ((stepM env p).2.1 ++ ps) else none := by
  simp only [matP]
  rw [matT_eq, stepM]
  by_cases k1 : p.1.kind = 1
  · have k2 : ¬ p.1.kind = 2 := by omega
    rw [if_neg k2, if_pos k1, if_pos k1]
    cases hi : idxP (fun b => b.1 == p.1.int) env with
    | some i =>
      have hlt := idxP_lt hi
      simp only [List.getElem?_eq_getElem hlt, List.nil_append]
      cases (cmpT (env[i]).2 p.2 == 0) <;> rfl
    | none => rfl
  · rw [if_neg k1, if_neg k1]
    by_cases k2 : p.1.kind = 2
    · rw [if_pos k2, if_pos k2]
      by_cases d : p.2.kind = 2 ∧ p.2.name.toList = p.1.name.toList ∧ p.2.args.length = p.1.args.length
      · rw [if_pos d, if_pos d]
        simp only [↓reduceIte]
        rw [matP_append, matP_zip]
      · rw [if_neg d, if_neg d]; rfl
    · rw [if_neg k2, if_neg k2]
      simp only [List.nil_append]
      cases (cmpT p.1 p.2 == 0) <;> rfl

/-- the nodes of patterns -/
def ndsP : List (T × T) → Nat
  | [] => 0
  | p :: ps => p.1.nds + ndsP ps
theorem ndsP_append : ∀ (ps qs : List (T × T)), ndsP (ps ++ qs) = ndsP ps + ndsP qs
  | [], qs => by simp [ndsP]
  | p :: ps, qs => by rw [List.cons_append, ndsP, ndsP, ndsP_append ps qs]; omega
theorem ndsP_zip : ∀ (l m : List T), ndsP (l.zip m) ≤ ndsL l
  | [], m => by simp [ndsP]
  | _ :: _, [] => by simp [ndsP]
  | a :: l, b :: m => by simp only [List.zip_cons_cons, ndsP, ndsL]; have := ndsP_zip l m; omega
theorem nds_pos (t : T) : 1 ≤ t.nds := by have := T.nds_eq t; omega
theorem length_le_ndsP : ∀ ps : List (T × T), ps.length ≤ ndsP ps
  | [] => Nat.le_refl _
  | p :: ps => by have := length_le_ndsP ps; have := nds_pos p.1; simp only [List.length_cons, ndsP]; omega
theorem ndsL_mem {l : List T} {t : T} (h : t ∈ l) : t.nds ≤ ndsL l := by
  obtain ⟨k, hk, rfl⟩ := List.getElem_of_mem h
  exact ndsL_get hk
theorem ndsP_mem : ∀ {ps : List (T × T)} {p : T × T}, p ∈ ps → p.1.nds ≤ ndsP ps
  | [], p, h => by simp at h
  | q :: ps, p, h => by
    simp only [ndsP]
    rcases List.mem_cons.1 h with rfl | h
    · omega
    · have := ndsP_mem h; omega
theorem insL_length (l : Env) (i : Nat) (f : Int × T) (h : i ≤ l.length) : (insL l i f).length = l.length + 1 := by
  simp only [insL, List.length_append, List.length_take, List.length_drop, List.length_cons, List.length_nil]; omega
theorem ext_length (l : Env) (f : Int × T) : (ext l f).length = l.length + 1 := insL_length l _ f (extK_le l f)
theorem mem_ext {l : Env} {f b : Int × T} (h : b ∈ ext l f) : b = f ∨ b ∈ l := by
  simp only [ext, insL, List.mem_append, List.mem_cons, List.not_mem_nil, or_false] at h
  rcases h with (h | h) | h
  · exact .inr (List.mem_of_mem_take h)
  · exact .inl h
  · exact .inr (List.mem_of_mem_drop h)

theorem step_len (env : Env) (p : T × T) : (stepM env p).1.length + ndsP (stepM env p).2.1 + 1 ≤ env.length + p.1.nds + 1 ∧ ndsP (stepM env p).2.1 < p.1.nds := by
  have hp := nds_pos p.1
  rw [stepM]
  split
  · cases idxP (fun b => b.1 == p.1.int) env with
    | some i => simp only [ndsP]; omega
    | none => simp only [ndsP, ext_length]; omega
  · split
    · split
      · have := ndsP_zip p.1.args p.2.args
        have := T.nds_eq p.1
        simp only; omega
      · simp only [ndsP, List.length_nil]; omega
    · simp only [ndsP]; omega
theorem step_env {env : Env} {p : T × T} {n : Nat} (h : ∀ b ∈ env, b.2.nds ≤ n) (hp : p.2.nds ≤ n) : ∀ b ∈ (stepM env p).1, b.2.nds ≤ n := by
  rw [stepM]
  split
  · cases idxP (fun b => b.1 == p.1.int) env with
    | some i => exact h
    | none =>
      intro b hb
      rcases mem_ext hb with rfl | hb
      · exact hp
      · exact h b hb
  · split
    · split
      · exact h
      · simp
    · exact h
theorem step_todo {env : Env} {p : T × T} {n : Nat} (hp : p.2.nds ≤ n) : ∀ q ∈ (stepM env p).2.1, q.2.nds ≤ n := by
  rw [stepM]
  split
  · cases idxP (fun b => b.1 == p.1.int) env <;> simp
  · split
    · split
      · intro q hq
        have := ndsL_mem (List.of_mem_zip (a := q.1) (b := q.2) hq).2
        have := T.nds_eq p.2
        omega
      · simp
    · simp

def resAV : Option Env → AV
  | some e => .tup [.sl 5 (bavs e) none, .b true]
  | none => .tup [.sl 5 (bavs []) none, .b false]

theorem slice_fromP (l : List (T × T)) (hk : 1 ≤ l.length) (h : AH) : aSlice Try.prog 63 (.sl 8 (pavs l) none) (some (.i 1)) none h = some (.sl 8 (pavs (l.drop 1)) none) := by
  have he : elemInfo Try.prog 63 = some (62, 8) := by kernel_rfl
  simp only [aSlice, he, boundOf]
  rw [if_pos ⟨trivial, by omega, by rw [pavs_length]; omega, by omega⟩]
  rw [if_neg (by omega)]
  have e1 : ((1 : Int)).toNat = 1 := rfl
  have e2 : (((pavs l).length : Int) - 1).toNat = l.length - 1 := by rw [pavs_length]; omega
  rw [e1, e2, pavs_drop, List.take_of_length_le (by rw [pavs_length, List.length_drop]; omega)]

theorem all_pure (env : Env) (todo : List (T × T)) (hs : env.length + ndsP todo ≤ 1000000) (he : ∀ b ∈ env, b.2.nds ≤ 1000000) (ht : ∀ p ∈ todo, p.2.nds ≤ 1000000) :
    Pure Try.prog 34 [.sl 5 (bavs env) none, .sl 8 (pavs todo) none] (resAV (matP env todo)) := by
  intro h
  refine callW_of_body Try.func34 rfl Try.call34 Try.ntmps34 (congrArg Array.toList Try.results34) (by simp) ?_
  repeat (first | ((first | (with_reducible refine codeW_seq_region (fun K E hK hE => ?_)) | (with_reducible refine codeW_region_k (fun K E hK hE => ?_))); simp -implicitDefEqProofs only [opsW_nil, opsW_cons, awanted, OpW, contW, aop, undef, nilAsk, List.isEmpty_nil, List.isEmpty_cons, ev_tmp, ev_const, ev_func, AS.ev, put_some, put_none, ofV_int, ofV_bool, ofV_str, ofV_slice, ofV_map, ofV_pointer, ofV_nilFunc, ofV_nilIface, ofV_agg, upd_at, initTm, List.getD_cons_zero, List.getD_cons_succ, AV.cells1, cells_agg, cells_v, cells_sl, cells_pin, cells_ptr, cells_arr, cells_mp, cells_fn, cells_ifc, isAgg_agg, isAgg_v, isAgg_sl, isAgg_pin, isAgg_ptr, isAgg_arr, isAgg_mp, isAgg_fn, isAgg_ifc, List.all_cons, List.all_nil, cell1_int, cell1_bool, cell1_str, cell1_slice, cell1_map, cell1_pointer, cell1_nilFunc, cell1_nilIface, cell1_sl, cell1_pin, cell1_ptr, cell1_arr, cell1_mp, cell1_fn, cell1_ifc, Bool.and_self, Bool.and_true, Bool.true_and, Bool.not_true, Bool.not_false, ↓reduceIte, List.length_cons, List.length_nil, Nat.reduceAdd, Nat.reduceLT, Nat.reduceLeDiff, Nat.reduceEqDiff, Nat.reduceSub, Nat.reduceMul, Nat.zero_add, Nat.add_zero, true_and, and_true, and_self, then_normal, block_normal, aLoad, aPart, aIndexAddr, aBin, aExtract, aFill, aBuildSlice, aLen, srcOf, hget0, hget, hset0, hset, hlen, happ, List.getElem?_cons_zero, List.getElem?_cons_succ, List.getElem?_nil, List.set_cons_zero, List.set_cons_succ, Option.map_some, Option.map_none, Option.bind_some, Option.bind_none, Option.some.injEq, List.toList_toArray, List.getElem?_toArray, List.map_cons, List.map_nil, List.cons_append, List.nil_append, List.append_nil, List.take_succ_cons, List.take_zero, List.drop_succ_cons, List.drop_zero, pv_gtr, pv_not, pv_sgtr, goInt, decide_true, decide_false, beq_self_eq_true, bne_self_eq_false, Int.toNat_natCast, Int.toNat_zero, Int.toNat_one, Int.natCast_nonneg, Int.ofNat_lt, Int.ofNat_le, Int.natCast_zero, Bool.false_eq_true, Bool.true_eq_false, beq_true, beq_false, rng0, rng1, rng2, rng3, rng4, rng5, rng6, rng7, rng8, any_some', Nat.reducePow, Nat.zero_le, Nat.zero_mul, T.av_cells, T.av_isAgg, avs_length, ints_length, ti0, zi0, ti3, zi3, un3, ti4, zi4, un4, ti22, ei22, ai22, zi22, un22, ti46, fi46_0, fi46_1, zi46, sp46, ti62, fi62_0, fi62_1, zi62, sp62, ti63, ei63, ai63, zi63, un63, ti76, ti87, ei87, ai87, zi87, un87, bav_cells, bav_isAgg, bavs_length, Int.le_refl, Int.sub_zero]) | (with_reducible refine codeW_seq_k (fun K hK => ?_)) | (with_reducible refine codeW_block ?_) | (with_reducible refine codeW_ret ?_) | (with_reducible refine codeW_label ?_) | (with_reducible refine codeW_scope ?_) | (with_reducible refine codeW_skip ?_) | (with_reducible refine codeW_exit ?_) | (with_reducible refine to_then_normal ?_) | (with_reducible refine to_then_ret ?_) | (with_reducible refine to_then_exit ?_) | (with_reducible refine to_block_normal ?_) | (with_reducible refine to_block_ret ?_) | (with_reducible refine to_block_hit ?_) | (with_reducible refine to_block_miss rfl ?_) | ((with_reducible refine hK _ ?_); clear hK) | (clear hK; (with_reducible refine hK _ ?_); clear hK) | (clear hK; clear hK; (with_reducible refine hK _ ?_); clear hK) | (clear hK; clear hK; clear hK; (with_reducible refine hK _ ?_); clear hK) | (refine codeW_cond rfl ?_; simp only [↓reduceIte, Bool.false_eq_true]) | (intro (b : Bool); cases b))
  obtain ⟨I, hI⟩ : ∃ I : Nat → AS → Prop, I = fun m' s => ∃ (e : Env) (ps : List (T × T)), m' = ndsP ps ∧ matP env todo = matP e ps ∧ e.length + ndsP ps ≤ 1000000 ∧ (∀ b ∈ e, b.2.nds ≤ 1000000) ∧ (∀ p ∈ ps, p.2.nds ≤ 1000000) ∧ s.tm 0 = .sl 5 (bavs e) none ∧ s.tm 1 = .sl 8 (pavs ps) none ∧ s.h = h := ⟨_, rfl⟩; refine codeW_loop I ?_ (m := ndsP todo) ?_
  · intro m' s hs; rw [hI] at hs; obtain ⟨tm, hp⟩ := s; dsimp only at hs; obtain ⟨e, ps, rfl, hm, hl, he, ht, t0, t1, rfl⟩ := hs
    cases ps with
    | nil =>
      have z : ¬ (((pavs []).length : Int) > 0) := by decide
      repeat (first | ((first | (with_reducible refine codeW_seq_region (fun K E hK hE => ?_)) | (with_reducible refine codeW_region_k (fun K E hK hE => ?_))); simp -implicitDefEqProofs only [opsW_nil, opsW_cons, awanted, OpW, contW, aop, undef, nilAsk, List.isEmpty_nil, List.isEmpty_cons, ev_tmp, ev_const, ev_func, AS.ev, put_some, put_none, ofV_int, ofV_bool, ofV_str, ofV_slice, ofV_map, ofV_pointer, ofV_nilFunc, ofV_nilIface, ofV_agg, upd_at, initTm, List.getD_cons_zero, List.getD_cons_succ, AV.cells1, cells_agg, cells_v, cells_sl, cells_pin, cells_ptr, cells_arr, cells_mp, cells_fn, cells_ifc, isAgg_agg, isAgg_v, isAgg_sl, isAgg_pin, isAgg_ptr, isAgg_arr, isAgg_mp, isAgg_fn, isAgg_ifc, List.all_cons, List.all_nil, cell1_int, cell1_bool, cell1_str, cell1_slice, cell1_map, cell1_pointer, cell1_nilFunc, cell1_nilIface, cell1_sl, cell1_pin, cell1_ptr, cell1_arr, cell1_mp, cell1_fn, cell1_ifc, Bool.and_self, Bool.and_true, Bool.true_and, Bool.not_true, Bool.not_false, ↓reduceIte, List.length_cons, List.length_nil, Nat.reduceAdd, Nat.reduceLT, Nat.reduceLeDiff, Nat.reduceEqDiff, Nat.reduceSub, Nat.reduceMul, Nat.zero_add, Nat.add_zero, true_and, and_true, and_self, then_normal, block_normal, aLoad, aPart, aIndexAddr, aBin, aExtract, aFill, aBuildSlice, aLen, srcOf, hget0, hget, hset0, hset, hlen, happ, List.getElem?_cons_zero, List.getElem?_cons_succ, List.getElem?_nil, List.set_cons_zero, List.set_cons_succ, Option.map_some, Option.map_none, Option.bind_some, Option.bind_none, Option.some.injEq, List.toList_toArray, List.getElem?_toArray, List.map_cons, List.map_nil, List.cons_append, List.nil_append, List.append_nil, List.take_succ_cons, List.take_zero, List.drop_succ_cons, List.drop_zero, pv_gtr, pv_not, pv_sgtr, goInt, decide_true, decide_false, beq_self_eq_true, bne_self_eq_false, Int.toNat_natCast, Int.toNat_zero, Int.toNat_one, Int.natCast_nonneg, Int.ofNat_lt, Int.ofNat_le, Int.natCast_zero, Bool.false_eq_true, Bool.true_eq_false, beq_true, beq_false, rng0, rng1, rng2, rng3, rng4, rng5, rng6, rng7, rng8, any_some', Nat.reducePow, Nat.zero_le, Nat.zero_mul, T.av_cells, T.av_isAgg, avs_length, ints_length, ti0, zi0, ti3, zi3, un3, ti4, zi4, un4, ti22, ei22, ai22, zi22, un22, ti46, fi46_0, fi46_1, zi46, sp46, ti62, fi62_0, fi62_1, zi62, sp62, ti63, ei63, ai63, zi63, un63, ti76, ti87, ei87, ai87, zi87, un87, bav_cells, bav_isAgg, bavs_length, Int.le_refl, Int.sub_zero, t0, t1, z]) | (with_reducible refine codeW_seq_k (fun K hK => ?_)) | (with_reducible refine codeW_block ?_) | (with_reducible refine codeW_ret ?_) | (with_reducible refine codeW_label ?_) | (with_reducible refine codeW_scope ?_) | (with_reducible refine codeW_skip ?_) | (with_reducible refine codeW_exit ?_) | (with_reducible refine to_then_normal ?_) | (with_reducible refine to_then_ret ?_) | (with_reducible refine to_then_exit ?_) | (with_reducible refine to_block_normal ?_) | (with_reducible refine to_block_ret ?_) | (with_reducible refine to_block_hit ?_) | (with_reducible refine to_block_miss rfl ?_) | ((with_reducible refine hK _ ?_); clear hK) | (clear hK; (with_reducible refine hK _ ?_); clear hK) | (clear hK; clear hK; (with_reducible refine hK _ ?_); clear hK) | (clear hK; clear hK; clear hK; (with_reducible refine hK _ ?_); clear hK) | (refine codeW_cond rfl ?_; simp only [↓reduceIte, Bool.false_eq_true]) | (intro (b : Bool); cases b))
      simp -implicitDefEqProofs only [opsW_nil, opsW_cons, awanted, OpW, contW, aop, undef, nilAsk, List.isEmpty_nil, List.isEmpty_cons, ev_tmp, ev_const, ev_func, AS.ev, put_some, put_none, ofV_int, ofV_bool, ofV_str, ofV_slice, ofV_map, ofV_pointer, ofV_nilFunc, ofV_nilIface, ofV_agg, upd_at, initTm, List.getD_cons_zero, List.getD_cons_succ, AV.cells1, cells_agg, cells_v, cells_sl, cells_pin, cells_ptr, cells_arr, cells_mp, cells_fn, cells_ifc, isAgg_agg, isAgg_v, isAgg_sl, isAgg_pin, isAgg_ptr, isAgg_arr, isAgg_mp, isAgg_fn, isAgg_ifc, List.all_cons, List.all_nil, cell1_int, cell1_bool, cell1_str, cell1_slice, cell1_map, cell1_pointer, cell1_nilFunc, cell1_nilIface, cell1_sl, cell1_pin, cell1_ptr, cell1_arr, cell1_mp, cell1_fn, cell1_ifc, Bool.and_self, Bool.and_true, Bool.true_and, Bool.not_true, Bool.not_false, ↓reduceIte, List.length_cons, List.length_nil, Nat.reduceAdd, Nat.reduceLT, Nat.reduceLeDiff, Nat.reduceEqDiff, Nat.reduceSub, Nat.reduceMul, Nat.zero_add, Nat.add_zero, true_and, and_true, and_self, then_normal, block_normal, aLoad, aPart, aIndexAddr, aBin, aExtract, aFill, aBuildSlice, aLen, srcOf, hget0, hget, hset0, hset, hlen, happ, List.getElem?_cons_zero, List.getElem?_cons_succ, List.getElem?_nil, List.set_cons_zero, List.set_cons_succ, Option.map_some, Option.map_none, Option.bind_some, Option.bind_none, Option.some.injEq, List.toList_toArray, List.getElem?_toArray, List.map_cons, List.map_nil, List.cons_append, List.nil_append, List.append_nil, List.take_succ_cons, List.take_zero, List.drop_succ_cons, List.drop_zero, pv_gtr, pv_not, pv_sgtr, goInt, decide_true, decide_false, beq_self_eq_true, bne_self_eq_false, Int.toNat_natCast, Int.toNat_zero, Int.toNat_one, Int.natCast_nonneg, Int.ofNat_lt, Int.ofNat_le, Int.natCast_zero, Bool.false_eq_true, Bool.true_eq_false, beq_true, beq_false, rng0, rng1, rng2, rng3, rng4, rng5, rng6, rng7, rng8, any_some', Nat.reducePow, Nat.zero_le, Nat.zero_mul, T.av_cells, T.av_isAgg, avs_length, ints_length, ti0, zi0, ti3, zi3, un3, ti4, zi4, un4, ti22, ei22, ai22, zi22, un22, ti46, fi46_0, fi46_1, zi46, sp46, ti62, fi62_0, fi62_1, zi62, sp62, ti63, ei63, ai63, zi63, un63, ti76, ti87, ei87, ai87, zi87, un87, bav_cells, bav_isAgg, bavs_length, Int.le_refl, Int.sub_zero, List.mapM_cons, List.mapM_nil, Option.pure_def, Option.bind_eq_bind, then_ret, block_ret, then_normal, block_normal, BodyQ, aResults, aResult, exists_eq_left']
      exact leaves_end List.take_length (.tup (l' := [.sl 5 (bavs e) none, .b true]) rfl (frz_cons (.keep (bavs_below _ _)) (frz_one (.keep (.v _))))) ⟨by rw [hm]; rfl, rfl⟩
    | cons p ps =>
      have z : ((pavs (p :: ps)).length : Int) > 0 := by rw [pavs_length]; simp only [List.length_cons]; omega
      have z0 : 0 < (pavs (p :: ps)).length := by rw [pavs_length]; simp
      have hg : (pavs (p :: ps))[0]? = some (pav p) := rfl
      have c1 := step_pure e p (by omega) he (by simp only [ndsP] at hl; omega)
      have hsl := fun h => slice_fromP (p :: ps) (by simp) h
      rw [List.drop_one, List.tail_cons] at hsl
      obtain ⟨hn1, hn2⟩ := step_len e p
      have hn3 := step_env he (ht p (by simp))
      have hn4 := step_todo (env := e) (ht p (by simp))
      simp only [ndsP] at hl
      rw [matP_step] at hm
      cases hr : stepM e p with
      | mk e2 r2 =>
        obtain ⟨args, ok⟩ := r2
        rw [hr] at c1 hm hn1 hn2 hn3 hn4
        simp only [stepAV] at c1
        simp only at hm hn1 hn2 hn3 hn4
        cases ok with
        | false =>
          repeat (first | ((first | (with_reducible refine codeW_seq_region (fun K E hK hE => ?_)) | (with_reducible refine codeW_region_k (fun K E hK hE => ?_)) | (with_reducible refine funW_pure c1 ?_) | (with_reducible refine callA_pure c1 ?_)); simp -implicitDefEqProofs only [opsW_nil, opsW_cons, awanted, OpW, contW, aop, undef, nilAsk, List.isEmpty_nil, List.isEmpty_cons, ev_tmp, ev_const, ev_func, AS.ev, put_some, put_none, ofV_int, ofV_bool, ofV_str, ofV_slice, ofV_map, ofV_pointer, ofV_nilFunc, ofV_nilIface, ofV_agg, upd_at, initTm, List.getD_cons_zero, List.getD_cons_succ, AV.cells1, cells_agg, cells_v, cells_sl, cells_pin, cells_ptr, cells_arr, cells_mp, cells_fn, cells_ifc, isAgg_agg, isAgg_v, isAgg_sl, isAgg_pin, isAgg_ptr, isAgg_arr, isAgg_mp, isAgg_fn, isAgg_ifc, List.all_cons, List.all_nil, cell1_int, cell1_bool, cell1_str, cell1_slice, cell1_map, cell1_pointer, cell1_nilFunc, cell1_nilIface, cell1_sl, cell1_pin, cell1_ptr, cell1_arr, cell1_mp, cell1_fn, cell1_ifc, Bool.and_self, Bool.and_true, Bool.true_and, Bool.not_true, Bool.not_false, ↓reduceIte, List.length_cons, List.length_nil, Nat.reduceAdd, Nat.reduceLT, Nat.reduceLeDiff, Nat.reduceEqDiff, Nat.reduceSub, Nat.reduceMul, Nat.zero_add, Nat.add_zero, true_and, and_true, and_self, then_normal, block_normal, aLoad, aPart, aIndexAddr, aBin, aExtract, aFill, aBuildSlice, aLen, srcOf, hget0, hget, hset0, hset, hlen, happ, List.getElem?_cons_zero, List.getElem?_cons_succ, List.getElem?_nil, List.set_cons_zero, List.set_cons_succ, Option.map_some, Option.map_none, Option.bind_some, Option.bind_none, Option.some.injEq, List.toList_toArray, List.getElem?_toArray, List.map_cons, List.map_nil, List.cons_append, List.nil_append, List.append_nil, List.take_succ_cons, List.take_zero, List.drop_succ_cons, List.drop_zero, pv_gtr, pv_not, pv_sgtr, goInt, decide_true, decide_false, beq_self_eq_true, bne_self_eq_false, Int.toNat_natCast, Int.toNat_zero, Int.toNat_one, Int.natCast_nonneg, Int.ofNat_lt, Int.ofNat_le, Int.natCast_zero, Bool.false_eq_true, Bool.true_eq_false, beq_true, beq_false, rng0, rng1, rng2, rng3, rng4, rng5, rng6, rng7, rng8, any_some', Nat.reducePow, Nat.zero_le, Nat.zero_mul, T.av_cells, T.av_isAgg, avs_length, ints_length, ti0, zi0, ti3, zi3, un3, ti4, zi4, un4, ti22, ei22, ai22, zi22, un22, ti46, fi46_0, fi46_1, zi46, sp46, ti62, fi62_0, fi62_1, zi62, sp62, ti63, ei63, ai63, zi63, un63, ti76, ti87, ei87, ai87, zi87, un87, bav_cells, bav_isAgg, bavs_length, Int.le_refl, Int.sub_zero, t0, t1, z, z0, hg, pav_cells, pav_isAgg]) | (with_reducible refine codeW_seq_k (fun K hK => ?_)) | (with_reducible refine codeW_block ?_) | (with_reducible refine codeW_ret ?_) | (with_reducible refine codeW_label ?_) | (with_reducible refine codeW_scope ?_) | (with_reducible refine codeW_skip ?_) | (with_reducible refine codeW_exit ?_) | (with_reducible refine to_then_normal ?_) | (with_reducible refine to_then_ret ?_) | (with_reducible refine to_then_exit ?_) | (with_reducible refine to_block_normal ?_) | (with_reducible refine to_block_ret ?_) | (with_reducible refine to_block_hit ?_) | (with_reducible refine to_block_miss rfl ?_) | ((with_reducible refine hK _ ?_); clear hK) | (clear hK; (with_reducible refine hK _ ?_); clear hK) | (clear hK; clear hK; (with_reducible refine hK _ ?_); clear hK) | (clear hK; clear hK; clear hK; (with_reducible refine hK _ ?_); clear hK) | (refine codeW_cond rfl ?_; simp only [↓reduceIte, Bool.false_eq_true]) | (intro (b : Bool); cases b))
          simp -implicitDefEqProofs only [opsW_nil, opsW_cons, awanted, OpW, contW, aop, undef, nilAsk, List.isEmpty_nil, List.isEmpty_cons, ev_tmp, ev_const, ev_func, AS.ev, put_some, put_none, ofV_int, ofV_bool, ofV_str, ofV_slice, ofV_map, ofV_pointer, ofV_nilFunc, ofV_nilIface, ofV_agg, upd_at, initTm, List.getD_cons_zero, List.getD_cons_succ, AV.cells1, cells_agg, cells_v, cells_sl, cells_pin, cells_ptr, cells_arr, cells_mp, cells_fn, cells_ifc, isAgg_agg, isAgg_v, isAgg_sl, isAgg_pin, isAgg_ptr, isAgg_arr, isAgg_mp, isAgg_fn, isAgg_ifc, List.all_cons, List.all_nil, cell1_int, cell1_bool, cell1_str, cell1_slice, cell1_map, cell1_pointer, cell1_nilFunc, cell1_nilIface, cell1_sl, cell1_pin, cell1_ptr, cell1_arr, cell1_mp, cell1_fn, cell1_ifc, Bool.and_self, Bool.and_true, Bool.true_and, Bool.not_true, Bool.not_false, ↓reduceIte, List.length_cons, List.length_nil, Nat.reduceAdd, Nat.reduceLT, Nat.reduceLeDiff, Nat.reduceEqDiff, Nat.reduceSub, Nat.reduceMul, Nat.zero_add, Nat.add_zero, true_and, and_true, and_self, then_normal, block_normal, aLoad, aPart, aIndexAddr, aBin, aExtract, aFill, aBuildSlice, aLen, srcOf, hget0, hget, hset0, hset, hlen, happ, List.getElem?_cons_zero, List.getElem?_cons_succ, List.getElem?_nil, List.set_cons_zero, List.set_cons_succ, Option.map_some, Option.map_none, Option.bind_some, Option.bind_none, Option.some.injEq, List.toList_toArray, List.getElem?_toArray, List.map_cons, List.map_nil, List.cons_append, List.nil_append, List.append_nil, List.take_succ_cons, List.take_zero, List.drop_succ_cons, List.drop_zero, pv_gtr, pv_not, pv_sgtr, goInt, decide_true, decide_false, beq_self_eq_true, bne_self_eq_false, Int.toNat_natCast, Int.toNat_zero, Int.toNat_one, Int.natCast_nonneg, Int.ofNat_lt, Int.ofNat_le, Int.natCast_zero, Bool.false_eq_true, Bool.true_eq_false, beq_true, beq_false, rng0, rng1, rng2, rng3, rng4, rng5, rng6, rng7, rng8, any_some', Nat.reducePow, Nat.zero_le, Nat.zero_mul, T.av_cells, T.av_isAgg, avs_length, ints_length, ti0, zi0, ti3, zi3, un3, ti4, zi4, un4, ti22, ei22, ai22, zi22, un22, ti46, fi46_0, fi46_1, zi46, sp46, ti62, fi62_0, fi62_1, zi62, sp62, ti63, ei63, ai63, zi63, un63, ti76, ti87, ei87, ai87, zi87, un87, bav_cells, bav_isAgg, bavs_length, Int.le_refl, Int.sub_zero, List.mapM_cons, List.mapM_nil, Option.pure_def, Option.bind_eq_bind, then_ret, block_ret, then_normal, block_normal, BodyQ, aResults, aResult, exists_eq_left']
          exact leaves_end List.take_length (.tup (l' := [.sl 5 (bavs []) none, .b false]) rfl (frz_cons (.nil 5) (frz_one (.keep (.v _))))) ⟨by rw [hm]; rfl, rfl⟩
        | true =>
          have hla := length_le_ndsP args
          have hlp := length_le_ndsP ps
          have c2 := concat_pure args ps (by omega)
          repeat (first | ((first | (with_reducible refine codeW_seq_region (fun K E hK hE => ?_)) | (with_reducible refine codeW_region_k (fun K E hK hE => ?_)) | (with_reducible refine funW_pure c1 ?_) | (with_reducible refine callA_pure c1 ?_) | (with_reducible refine funW_pure c2 ?_) | (with_reducible refine callA_pure c2 ?_)); simp -implicitDefEqProofs only [opsW_nil, opsW_cons, awanted, OpW, contW, aop, undef, nilAsk, List.isEmpty_nil, List.isEmpty_cons, ev_tmp, ev_const, ev_func, AS.ev, put_some, put_none, ofV_int, ofV_bool, ofV_str, ofV_slice, ofV_map, ofV_pointer, ofV_nilFunc, ofV_nilIface, ofV_agg, upd_at, initTm, List.getD_cons_zero, List.getD_cons_succ, AV.cells1, cells_agg, cells_v, cells_sl, cells_pin, cells_ptr, cells_arr, cells_mp, cells_fn, cells_ifc, isAgg_agg, isAgg_v, isAgg_sl, isAgg_pin, isAgg_ptr, isAgg_arr, isAgg_mp, isAgg_fn, isAgg_ifc, List.all_cons, List.all_nil, cell1_int, cell1_bool, cell1_str, cell1_slice, cell1_map, cell1_pointer, cell1_nilFunc, cell1_nilIface, cell1_sl, cell1_pin, cell1_ptr, cell1_arr, cell1_mp, cell1_fn, cell1_ifc, Bool.and_self, Bool.and_true, Bool.true_and, Bool.not_true, Bool.not_false, ↓reduceIte, List.length_cons, List.length_nil, Nat.reduceAdd, Nat.reduceLT, Nat.reduceLeDiff, Nat.reduceEqDiff, Nat.reduceSub, Nat.reduceMul, Nat.zero_add, Nat.add_zero, true_and, and_true, and_self, then_normal, block_normal, aLoad, aPart, aIndexAddr, aBin, aExtract, aFill, aBuildSlice, aLen, srcOf, hget0, hget, hset0, hset, hlen, happ, List.getElem?_cons_zero, List.getElem?_cons_succ, List.getElem?_nil, List.set_cons_zero, List.set_cons_succ, Option.map_some, Option.map_none, Option.bind_some, Option.bind_none, Option.some.injEq, List.toList_toArray, List.getElem?_toArray, List.map_cons, List.map_nil, List.cons_append, List.nil_append, List.append_nil, List.take_succ_cons, List.take_zero, List.drop_succ_cons, List.drop_zero, pv_gtr, pv_not, pv_sgtr, goInt, decide_true, decide_false, beq_self_eq_true, bne_self_eq_false, Int.toNat_natCast, Int.toNat_zero, Int.toNat_one, Int.natCast_nonneg, Int.ofNat_lt, Int.ofNat_le, Int.natCast_zero, Bool.false_eq_true, Bool.true_eq_false, beq_true, beq_false, rng0, rng1, rng2, rng3, rng4, rng5, rng6, rng7, rng8, any_some', Nat.reducePow, Nat.zero_le, Nat.zero_mul, T.av_cells, T.av_isAgg, avs_length, ints_length, ti0, zi0, ti3, zi3, un3, ti4, zi4, un4, ti22, ei22, ai22, zi22, un22, ti46, fi46_0, fi46_1, zi46, sp46, ti62, fi62_0, fi62_1, zi62, sp62, ti63, ei63, ai63, zi63, un63, ti76, ti87, ei87, ai87, zi87, un87, bav_cells, bav_isAgg, bavs_length, Int.le_refl, Int.sub_zero, t0, t1, z, z0, hg, hsl, pav_cells, pav_isAgg]) | (with_reducible refine codeW_seq_k (fun K hK => ?_)) | (with_reducible refine codeW_block ?_) | (with_reducible refine codeW_ret ?_) | (with_reducible refine codeW_label ?_) | (with_reducible refine codeW_scope ?_) | (with_reducible refine codeW_skip ?_) | (with_reducible refine codeW_exit ?_) | (with_reducible refine to_then_normal ?_) | (with_reducible refine to_then_ret ?_) | (with_reducible refine to_then_exit ?_) | (with_reducible refine to_block_normal ?_) | (with_reducible refine to_block_ret ?_) | (with_reducible refine to_block_hit ?_) | (with_reducible refine to_block_miss rfl ?_) | ((with_reducible refine hK _ ?_); clear hK) | (clear hK; (with_reducible refine hK _ ?_); clear hK) | (clear hK; clear hK; (with_reducible refine hK _ ?_); clear hK) | (clear hK; clear hK; clear hK; (with_reducible refine hK _ ?_); clear hK) | (refine codeW_cond rfl ?_; simp only [↓reduceIte, Bool.false_eq_true]) | (intro (b : Bool); cases b))
          have hlt9 : ndsP (args ++ ps) < ndsP (p :: ps) := by rw [ndsP_append]; simp only [ndsP]; omega
          refine Onward.mk (m' := ndsP (args ++ ps)) hlt9 ?_
          rw [hI]
          refine ⟨e2, args ++ ps, rfl, by rw [hm]; rfl, by rw [ndsP_append]; omega, hn3, ?_, rfl, rfl, rfl⟩
          intro q hq
          rcases List.mem_append.1 hq with hq | hq
          · exact hn4 q hq
          · exact ht q (by simp [hq])
  · rw [hI]
    exact ⟨env, todo, rfl, rfl, hs, he, ht, rfl, rfl, rfl⟩
end Go.Proofs.Ytpfcnfcnljnnlaa.Ab
