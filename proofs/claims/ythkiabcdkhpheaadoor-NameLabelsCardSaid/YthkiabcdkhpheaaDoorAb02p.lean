/-
  The number of a label, in the program.
-/
import Derived.Test.YthkiabcdkhpheaaDoorAb02o
set_option linter.unusedSimpArgs false
set_option linter.unusedVariables false
set_option maxHeartbeats 4000000
set_option maxRecDepth 4000
-- @lean
namespace Go.Proofs.YthkiabcdkhpheaaDoor.Ab
open Go.Proofs Go.RowKit Go.Shelf

/-! the number of a label: the program's -/
theorem begV_vOf (t : ByteArray) : begV (vOf t) = true := by
  unfold begV
  rw [decide_eq_true_eq]
  have e : (vOf t).data.toList = 86 :: t.data.toList := ba_append _ _
  refine ⟨?_, ?_⟩
  · rw [Lib.size_eq, e, List.length_cons]; omega
  · unfold byteAt; rw [e]; rfl
theorem cutV_vOf (t : ByteArray) : cutV (vOf t) = t := by
  rw [cutV, if_pos (begV_vOf t)]
  refine ba_ext ?_
  have e : (vOf t).data.toList = 86 :: t.data.toList := ba_append _ _
  rw [Lib.extract_eq, e]
  simp only [List.drop_succ_cons, List.drop_zero]
  rw [Lib.size_eq, e, List.length_cons, Nat.add_sub_cancel, List.take_length]
theorem vOf_cutV {s : ByteArray} (h : begV s = true) : vOf (cutV s) = s := by
  rw [cutV, if_pos h]
  unfold begV at h
  rw [decide_eq_true_eq] at h
  obtain ⟨h1, h2⟩ := h
  refine ba_ext ?_
  have e : (vOf (s.extract 1 s.size)).data.toList = 86 :: (s.extract 1 s.size).data.toList := ba_append _ _
  rw [e, Lib.extract_eq]
  rw [Lib.size_eq] at h1 ⊢
  unfold byteAt at h2
  generalize s.data.toList = l at *
  match l, h1 with
  | c :: l, _ =>
    simp only [List.getD_cons_zero] at h2
    have : c = 86 := UInt8.toNat_inj.1 (by simpa using (by omega : c.toNat = 86))
    subst this
    simp
theorem ne_list {s t : ByteArray} (h : s ≠ t) : (s.toList == t.toList) = false := by
  rw [beq_eq_false_iff_ne, Lib.toList_data, Lib.toList_data]
  exact fun e => h (ba_ext e)
theorem eq_list (s : ByteArray) : (s.toList == s.toList) = true := by simp
def isLab (s : ByteArray) (k : Nat) : Prop := k ≤ 1048576 ∧ s = vOf (decN k)
theorem isLab_inj {s : ByteArray} {k m : Nat} (h : isLab s k) (h' : isLab s m) : k = m := by
  have := congrArg cutV (h.2.symm.trans h'.2)
  rw [cutV_vOf, cutV_vOf] at this
  exact decN_inj this

/-- what the label of a number is -/
def labB (n : Int) : ByteArray := if n < 0 ∨ n > 1048576 then { data := #[] } else vOf (decN n.toNat)
theorem labB_nat {k : Nat} (h : k ≤ 1048576) : labB k = vOf (decN k) := by
  unfold labB; rw [if_neg (by omega)]; rfl
theorem labB_no {s : ByteArray} (hb : begV s = true) (hno : ∀ k, ¬ isLab s k) (n : Int) : labB n ≠ s := by
  unfold labB
  split
  · intro e
    subst e
    cases hb
  · rename_i h
    intro e
    exact hno n.toNat ⟨by omega, e.symm⟩
theorem label_all (n : Int) (h : AH) (hG : HasTab h) : CallW Tryd.prog 17 [.i n] h fun o h' => o = .ret (.v (.string (labB n))) ∧ h' = h := by
  unfold labB
  split
  · rename_i hn; exact label_no n hn h
  · obtain ⟨k, rfl⟩ : ∃ k : Nat, n = k := ⟨n.toNat, by omega⟩
    exact label_any k (by omega) h hG
theorem refLabel_all (n : Int) : Pure Tryd.prog 18 [.i n] (.v (.string (labB n))) := by
  unfold labB
  split
  · rename_i hn; exact refLabel_no n hn
  · obtain ⟨k, rfl⟩ : ∃ k : Nat, n = k := ⟨n.toNat, by omega⟩
    exact refLabel_pure k (by omega)

theorem number_err (s : ByteArray) (hb : begV s = true) (hn : (cutV s).size ≤ 7) (v : Int) (h : AH) (H : CallW Tryd.prog 29 [.v (.string (cutV s))] h fun o h' => o = .ret (.tup [.i v, .ifc 49 .junk]) ∧ h' = h) :
    CallW Tryd.prog 19 [.v (.string s)] h fun o h' => o = .ret (.tup [.i 0, .b false]) ∧ h' = h := by
  have hsl := fun b => pv_slen Tryd.prog 9 3 (by kernel_rfl) b
  have hnn : ∀ H, notNil Tryd.prog 36 H (.ifc 49 .junk) .nilIface = true := fun H => by kernel_rfl
  have c := cutPrefix_pure s
  rw [hb] at c
  have m1 : ¬ ((cutV s).size : Int) > 7 := by omega
  refine callW_of_body Tryd.func19 rfl Tryd.call19 Tryd.ntmps19 (congrArg Array.toList Tryd.results19) (by simp) ?_
  repeat (first | ((first | (with_reducible refine codeW_seq_region (fun K E hK hE => ?_)) | (with_reducible refine codeW_region_k (fun K E hK hE => ?_)) | (with_reducible refine funW_pure c ?_) | (with_reducible refine callA_pure c ?_) | (with_reducible refine FunW.ret (FunW.call H) ?_)); simp -implicitDefEqProofs only [opsW_nil, opsW_cons, awanted, OpW, contW, aop, undef, nilAsk, List.isEmpty_nil, List.isEmpty_cons, ev_tmp, ev_const, ev_func, AS.ev, put_some, put_none, ofV_int, ofV_bool, ofV_str, ofV_slice, ofV_map, ofV_pointer, ofV_nilFunc, ofV_nilIface, ofV_agg, upd_at, initTm, List.getD_cons_zero, List.getD_cons_succ, AV.cells1, cells_agg, cells_v, cells_sl, cells_pin, cells_ptr, cells_arr, cells_mp, cells_fn, cells_ifc, isAgg_agg, isAgg_v, isAgg_sl, isAgg_pin, isAgg_ptr, isAgg_arr, isAgg_mp, isAgg_fn, isAgg_ifc, List.all_cons, List.all_nil, cell1_int, cell1_bool, cell1_str, cell1_slice, cell1_map, cell1_pointer, cell1_nilFunc, cell1_nilIface, cell1_sl, cell1_pin, cell1_ptr, cell1_arr, cell1_mp, cell1_fn, cell1_ifc, Bool.and_self, Bool.and_true, Bool.true_and, Bool.not_true, Bool.not_false, ↓reduceIte, List.length_cons, List.length_nil, Nat.reduceAdd, Nat.reduceLT, Nat.reduceLeDiff, Nat.reduceEqDiff, Nat.reduceSub, Nat.reduceMul, Nat.zero_add, Nat.add_zero, true_and, and_true, and_self, then_normal, block_normal, aBin, aExtract, aLen, hget0, hget, hset0, hset, hlen, happ, List.getElem?_cons_zero, List.getElem?_cons_succ, List.getElem?_nil, List.set_cons_zero, List.set_cons_succ, Option.map_some, Option.map_none, Option.bind_some, Option.bind_none, Option.some.injEq, List.toList_toArray, List.getElem?_toArray, List.map_cons, List.map_nil, List.cons_append, List.nil_append, List.append_nil, List.take_succ_cons, List.take_zero, List.drop_succ_cons, List.drop_zero, pv_neq, pv_gtr, pv_not, pv_sneq, pv_sgtr, goInt, decide_true, decide_false, beq_self_eq_true, bne_self_eq_false, Int.toNat_natCast, Int.toNat_zero, Int.toNat_one, Int.natCast_nonneg, Int.ofNat_lt, Int.ofNat_le, Int.natCast_zero, Bool.false_eq_true, Bool.true_eq_false, beq_true, beq_false, Nat.reducePow, Nat.zero_le, Nat.zero_mul, T.av_cells, T.av_isAgg, avs_length, ints_length, ti3, zi3, un3, ti4, zi4, un4, ti9, ei9, zi9, un9, ti33, ti36, zi36, ti37, aNext, Int.le_refl, Int.sub_zero, hsl, m1, hnn]) | (with_reducible refine codeW_seq_k (fun K hK => ?_)) | (with_reducible refine codeW_block ?_) | (with_reducible refine codeW_ret ?_) | (with_reducible refine codeW_label ?_) | (with_reducible refine codeW_scope ?_) | (with_reducible refine codeW_skip ?_) | (with_reducible refine codeW_exit ?_) | (with_reducible refine to_then_normal ?_) | (with_reducible refine to_then_ret ?_) | (with_reducible refine to_then_exit ?_) | (with_reducible refine to_block_normal ?_) | (with_reducible refine to_block_ret ?_) | (with_reducible refine to_block_hit ?_) | (with_reducible refine to_block_miss rfl ?_) | ((with_reducible refine hK _ ?_); clear hK) | (clear hK; (with_reducible refine hK _ ?_); clear hK) | (clear hK; clear hK; (with_reducible refine hK _ ?_); clear hK) | (clear hK; clear hK; clear hK; (with_reducible refine hK _ ?_); clear hK) | (refine codeW_cond rfl ?_; simp only [↓reduceIte, Bool.false_eq_true]) | (intro (b : Bool); cases b))
  simp -implicitDefEqProofs only [opsW_nil, opsW_cons, awanted, OpW, contW, aop, undef, nilAsk, List.isEmpty_nil, List.isEmpty_cons, ev_tmp, ev_const, ev_func, AS.ev, put_some, put_none, ofV_int, ofV_bool, ofV_str, ofV_slice, ofV_map, ofV_pointer, ofV_nilFunc, ofV_nilIface, ofV_agg, upd_at, initTm, List.getD_cons_zero, List.getD_cons_succ, AV.cells1, cells_agg, cells_v, cells_sl, cells_pin, cells_ptr, cells_arr, cells_mp, cells_fn, cells_ifc, isAgg_agg, isAgg_v, isAgg_sl, isAgg_pin, isAgg_ptr, isAgg_arr, isAgg_mp, isAgg_fn, isAgg_ifc, List.all_cons, List.all_nil, cell1_int, cell1_bool, cell1_str, cell1_slice, cell1_map, cell1_pointer, cell1_nilFunc, cell1_nilIface, cell1_sl, cell1_pin, cell1_ptr, cell1_arr, cell1_mp, cell1_fn, cell1_ifc, Bool.and_self, Bool.and_true, Bool.true_and, Bool.not_true, Bool.not_false, ↓reduceIte, List.length_cons, List.length_nil, Nat.reduceAdd, Nat.reduceLT, Nat.reduceLeDiff, Nat.reduceEqDiff, Nat.reduceSub, Nat.reduceMul, Nat.zero_add, Nat.add_zero, true_and, and_true, and_self, then_normal, block_normal, aBin, aExtract, aLen, hget0, hget, hset0, hset, hlen, happ, List.getElem?_cons_zero, List.getElem?_cons_succ, List.getElem?_nil, List.set_cons_zero, List.set_cons_succ, Option.map_some, Option.map_none, Option.bind_some, Option.bind_none, Option.some.injEq, List.toList_toArray, List.getElem?_toArray, List.map_cons, List.map_nil, List.cons_append, List.nil_append, List.append_nil, List.take_succ_cons, List.take_zero, List.drop_succ_cons, List.drop_zero, pv_neq, pv_gtr, pv_not, pv_sneq, pv_sgtr, goInt, decide_true, decide_false, beq_self_eq_true, bne_self_eq_false, Int.toNat_natCast, Int.toNat_zero, Int.toNat_one, Int.natCast_nonneg, Int.ofNat_lt, Int.ofNat_le, Int.natCast_zero, Bool.false_eq_true, Bool.true_eq_false, beq_true, beq_false, Nat.reducePow, Nat.zero_le, Nat.zero_mul, T.av_cells, T.av_isAgg, avs_length, ints_length, ti3, zi3, un3, ti4, zi4, un4, ti9, ei9, zi9, un9, ti33, ti36, zi36, ti37, aNext, Int.le_refl, Int.sub_zero, List.mapM_cons, List.mapM_nil, Option.pure_def, Option.bind_eq_bind, then_ret, block_ret, then_normal, block_normal, BodyQ, aResults, aResult, exists_eq_left']
  exact leaves_end List.take_length (.tup rfl (frz_cons (.keep (.v _)) (frz_one (.keep (.v _))))) ⟨rfl, rfl⟩

def HasErr (h : AH) : Prop := (∃ tp p, HasG h 1 #[.iface tp p]) ∧ ∃ tp p, HasG h 2 #[.iface tp p]
theorem rel_err (c' : Cx) (v : Int) (N : Nat) : Rel c' (.tup [.i v, .ifc 49 .junk]) (.tuple #[.int .i64 v, .iface 49 (.pointer (some ⟨N, 0, none⟩))]) :=
  rel_tup2 (.v _) (.ifc _ _ _ (.junk _))
theorem atoi_bad (s : ByteArray) (hs : s.size ≤ 1000000) (hno : ∀ v, Lib.atoiAll s.data.toList ≠ .ok v) (h : AH) (hG : HasErr h) : ∃ v, CallW Tryd.prog 29 [.v (.string s)] h fun o h' => o = .ret (.tup [.i v, .ifc 49 .junk]) ∧ h' = h := by
  obtain ⟨⟨t1, p1, g1⟩, t2, p2, g2⟩ := hG
  cases ha : Lib.atoiAll s.data.toList
  · exact absurd ha (hno _)
  · refine ⟨0, callW_kit (vs := [.string s]) Tryd.call29 fun c hst hh => ?_⟩
    have hv : c.w.var? Tryd.prog "strconv.ErrSyntax" = some #[.iface t1 p1] := HasG.var hst (hh ▸ g1) (by kernel_rfl)
    have H : Calls Tryd.prog 29 #[.string s] c.w fun e w' => ∃ N, e = .returned (.tuple #[.int .i64 0, .iface 49 (.pointer (some ⟨N, 0, none⟩))]) ∧ c.w.heap.size ≤ N ∧ w'.heap[N]? = some (.cells #[.string ⟨#[65, 116, 111, 105]⟩, .string s, .iface t1 p1] 65 (0, 0)) ∧ Go.RowKit.Below c.w.heap.size c.w w' :=
      Any.strconv_Atoi_syntax_var Tryd.laysC172 s (by omega) ha t1 p1 c.w hv
    refine H.mono ?_
    rintro e w' ⟨N, rfl, _, _, hb⟩
    exact ⟨_, rfl, hb, fun c' => rel_err c' _ N⟩
  · refine ⟨Lib.atoiSat s.data.toList, callW_kit (vs := [.string s]) Tryd.call29 fun c hst hh => ?_⟩
    have hv : c.w.var? Tryd.prog "strconv.ErrRange" = some #[.iface t2 p2] := HasG.var hst (hh ▸ g2) (by kernel_rfl)
    have H : Calls Tryd.prog 29 #[.string s] c.w fun e w' => ∃ N, e = .returned (.tuple #[.int .i64 (Lib.atoiSat s.data.toList), .iface 49 (.pointer (some ⟨N, 0, none⟩))]) ∧ c.w.heap.size ≤ N ∧ w'.heap[N]? = some (.cells #[.string ⟨#[65, 116, 111, 105]⟩, .string s, .iface t2 p2] 65 (0, 0)) ∧ Go.RowKit.Below c.w.heap.size c.w w' :=
      Any.strconv_Atoi_range_var Tryd.laysC172 s (by omega) ha t2 p2 c.w hv
    refine H.mono ?_
    rintro e w' ⟨N, rfl, _, _, hb⟩
    exact ⟨_, rfl, hb, fun c' => rel_err c' _ N⟩

/-- the program's Number -/
theorem number_yes (s : ByteArray) (k : Nat) (hk : isLab s k) (h : AH) (hG : HasTab h) : CallW Tryd.prog 19 [.v (.string s)] h fun o h' => o = .ret (.tup [.i k, .b true]) ∧ h' = h := by
  obtain ⟨hk1, rfl⟩ := hk
  have hsz := decN_le7 hk1
  have H := atoi_ok (decN k) (by omega) k (by rw [decN_list]; exact atoi_dec (by rw [Lib.decDigits_length, ← decN_size]; omega)) h
  have := number_of (vOf (decN k)) (begV_vOf _) (by rw [cutV_vOf]; omega) k h (by rw [cutV_vOf]; exact H) _ (label_any k hk1 h hG)
  rwa [if_pos (eq_list _)] at this
theorem number_none (s : ByteArray) (hno : ∀ k, ¬ isLab s k) (h : AH) (hG : HasTab h) (hE : HasErr h) : CallW Tryd.prog 19 [.v (.string s)] h fun o h' => o = .ret (.tup [.i 0, .b false]) ∧ h' = h := by
  cases hb : begV s with
  | false => exact number_no s (.inl hb) h
  | true =>
    by_cases hn : (cutV s).size > 7
    · exact number_no s (.inr hn) h
    · cases ha : Lib.atoiAll (cutV s).data.toList with
      | ok v =>
        have := number_of s hb (by omega) v h (atoi_ok (cutV s) (by omega) v ha h) _ (label_all v h hG)
        rwa [ne_list (labB_no hb hno v), if_neg (by simp)] at this
      | _ =>
        obtain ⟨v, H⟩ := atoi_bad (cutV s) (by omega) (fun v e => by rw [ha] at e; cases e) h hE
        exact number_err s hb (by omega) v h H
end Go.Proofs.YthkiabcdkhpheaaDoor.Ab
