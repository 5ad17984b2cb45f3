/-
  The law on the kinds of strings, as a call; strings with a byte more.
-/
import Derived.Test.YthkiabcdkhpheaaDoorAb02e
set_option linter.unusedSimpArgs false
set_option linter.unusedVariables false
set_option maxHeartbeats 4000000
set_option maxRecDepth 4000
-- @lean
namespace Go.Proofs.YthkiabcdkhpheaaDoor.Ab
open Go.Proofs

theorem lawKinds (s : ByteArray) (hs : s.size ≤ maxLen) (h : AH) : CallW Tryd.prog 3 [.v (.string s)] h fun o h' => o = .ret (.b true) ∧ h' = h := by
  have hbe := fun xo yo a b => pv_beql Tryd.prog 4 xo yo (by kernel_rfl) a b
  have hsl := fun b => pv_slen Tryd.prog 9 3 (by kernel_rfl) b
  have ca := examples_pure
  by_cases n1 : (s.size : Int) > 5000
  · refine callW_of_body Tryd.func3 rfl Tryd.call3 Tryd.ntmps3 (congrArg Array.toList Tryd.results3) (by simp) ?_
    repeat (first | ((first | (with_reducible refine codeW_seq_region (fun K E hK hE => ?_)) | (with_reducible refine codeW_region_k (fun K E hK hE => ?_)) | (with_reducible refine funW_pure ca ?_) | (with_reducible refine callA_pure ca ?_)); simp -implicitDefEqProofs only [opsW_nil, opsW_cons, awanted, OpW, contW, aop, undef, AS.ev, put_some, ofV_int, ofV_bool, upd_at, initTm, List.getD_cons_zero, ↓reduceIte, Nat.reduceLT, Nat.reduceEqDiff, aBin, aLen, Option.map_some, List.map_nil, pv_gtr, goInt, decide_true, hsl, n1]) | (with_reducible refine codeW_seq_k (fun K hK => ?_)) | (with_reducible refine codeW_block ?_) | (with_reducible refine codeW_ret ?_) | (with_reducible refine codeW_label ?_) | (with_reducible refine codeW_scope ?_) | (with_reducible refine codeW_skip ?_) | (with_reducible refine codeW_exit ?_) | (with_reducible refine to_then_normal ?_) | (with_reducible refine to_then_ret ?_) | (with_reducible refine to_then_exit ?_) | (with_reducible refine to_block_normal ?_) | (with_reducible refine to_block_ret ?_) | (with_reducible refine to_block_hit ?_) | (with_reducible refine to_block_miss rfl ?_) | ((with_reducible refine hK _ ?_); clear hK) | (clear hK; (with_reducible refine hK _ ?_); clear hK) | (clear hK; clear hK; (with_reducible refine hK _ ?_); clear hK) | (clear hK; clear hK; clear hK; (with_reducible refine hK _ ?_); clear hK) | (refine codeW_cond rfl ?_; simp only [↓reduceIte]) | (intro (b : Bool); cases b))
    simp only [BodyQ, aResults, aResult, upd, ↓reduceIte, Option.some.injEq, exists_eq_left']; first | refine leaves_end (htake _ _) (.keep (.v _)) ⟨rfl, rfl⟩ | refine leaves_end List.take_length (.keep (.v _)) ⟨rfl, rfl⟩
  · have c1 := right_pure s
    have c2 := refRight_pure s hs
    have c3 := variable_pure s
    have c4 := refVariable_pure s hs
    have c5 := operator_pure s
    have c6 := refOperator_pure s
    have c7 := reserved_pure s
    have c8 := refReserved_pure s
    refine callW_of_body Tryd.func3 rfl Tryd.call3 Tryd.ntmps3 (congrArg Array.toList Tryd.results3) (by simp) ?_
    iterate 9 (try (first | ((first | (with_reducible refine codeW_seq_region (fun K E hK hE => ?_)) | (with_reducible refine codeW_region_k (fun K E hK hE => ?_))); simp -implicitDefEqProofs only [opsW_nil, opsW_cons, awanted, OpW, aop, undef, AS.ev, put_some, ofV_int, ofV_bool, upd_at, initTm, List.getD_cons_zero, ↓reduceIte, Nat.reduceLT, Nat.reduceEqDiff, aBin, aLen, Option.map_some, pv_gtr, goInt, decide_false, hsl, n1]) | (with_reducible refine codeW_seq_k (fun K hK => ?_)) | (with_reducible refine codeW_block ?_) | (with_reducible refine codeW_ret ?_) | (with_reducible refine codeW_label ?_) | (with_reducible refine codeW_scope ?_) | (with_reducible refine codeW_skip ?_) | (with_reducible refine codeW_exit ?_) | (with_reducible refine to_then_normal ?_) | (with_reducible refine to_then_ret ?_) | (with_reducible refine to_then_exit ?_) | (with_reducible refine to_block_normal ?_) | (with_reducible refine to_block_ret ?_) | (with_reducible refine to_block_hit ?_) | (with_reducible refine to_block_miss rfl ?_) | ((with_reducible refine hK _ ?_); clear hK) | (clear hK; (with_reducible refine hK _ ?_); clear hK) | (clear hK; clear hK; (with_reducible refine hK _ ?_); clear hK) | (clear hK; clear hK; clear hK; (with_reducible refine hK _ ?_); clear hK) | (refine codeW_cond rfl ?_; simp only [↓reduceIte, Bool.false_eq_true]) | (intro (b : Bool); cases b)))
    (with_reducible refine codeW_seq_region (fun K E hK hE => ?_))
    (try simp only [List.toList_toArray]); refine opsW_take 6 (fun K1 hK1 => ?_); simp -implicitDefEqProofs only [opsW_cons, awanted, OpW, aop, undef, AS.ev, put_some, upd_at, initTm, List.getD_cons_zero, ↓reduceIte, Nat.reduceLT, Nat.reduceEqDiff, List.map_cons, List.map_nil, List.take_succ_cons, List.take_zero]; (repeat (first | ((first | (with_reducible refine codeW_seq_region (fun K E hK hE => ?_)) | (with_reducible refine codeW_region_k (fun K E hK hE => ?_)) | (with_reducible refine funW_pure c1 ?_) | (with_reducible refine callA_pure c1 ?_) | (with_reducible refine funW_pure c2 ?_) | (with_reducible refine callA_pure c2 ?_)); simp -implicitDefEqProofs only [opsW_nil, opsW_cons, awanted, OpW, contW, aop, undef, AS.ev, put_some, upd_at, initTm, List.getD_cons_zero, ↓reduceIte, Nat.reduceLT, Nat.reduceEqDiff, aBin, Option.map_some, List.map_cons, List.map_nil, beq_self_eq_true, hbe]) | (with_reducible refine codeW_seq_k (fun K hK => ?_)) | (with_reducible refine codeW_block ?_) | (with_reducible refine codeW_ret ?_) | (with_reducible refine codeW_label ?_) | (with_reducible refine codeW_scope ?_) | (with_reducible refine codeW_skip ?_) | (with_reducible refine codeW_exit ?_) | (with_reducible refine to_then_normal ?_) | (with_reducible refine to_then_ret ?_) | (with_reducible refine to_then_exit ?_) | (with_reducible refine to_block_normal ?_) | (with_reducible refine to_block_ret ?_) | (with_reducible refine to_block_hit ?_) | (with_reducible refine to_block_miss rfl ?_) | ((with_reducible refine hK _ ?_); clear hK) | (clear hK; (with_reducible refine hK _ ?_); clear hK) | (clear hK; clear hK; (with_reducible refine hK _ ?_); clear hK) | (clear hK; clear hK; clear hK; (with_reducible refine hK _ ?_); clear hK) | (refine codeW_cond rfl ?_; simp only [↓reduceIte, Bool.false_eq_true]) | (intro (b : Bool); cases b))); refine hK1 _ ?_; clear hK1
    (try simp only [List.drop_succ_cons, List.drop_zero]); refine opsW_take 7 (fun K1 hK1 => ?_); simp -implicitDefEqProofs only [opsW_cons, awanted, OpW, aop, undef, AS.ev, put_some, upd_at, initTm, List.getD_cons_zero, ↓reduceIte, Nat.reduceLT, Nat.reduceEqDiff, List.getElem?_cons_zero, List.getElem?_cons_succ, Option.bind_some, List.getElem?_toArray, List.map_cons, List.map_nil, List.take_succ_cons, List.take_zero, beq_self_eq_true]; (repeat (first | ((first | (with_reducible refine codeW_seq_region (fun K E hK hE => ?_)) | (with_reducible refine codeW_region_k (fun K E hK hE => ?_)) | (with_reducible refine funW_pure c3 ?_) | (with_reducible refine callA_pure c3 ?_) | (with_reducible refine funW_pure c4 ?_) | (with_reducible refine callA_pure c4 ?_)); simp -implicitDefEqProofs only [opsW_nil, opsW_cons, awanted, OpW, contW, aop, undef, AS.ev, put_some, upd_at, initTm, List.getD_cons_zero, ↓reduceIte, Nat.reduceLT, Nat.reduceEqDiff, aBin, List.getElem?_cons_zero, List.getElem?_cons_succ, Option.map_some, Option.bind_some, List.getElem?_toArray, List.map_cons, List.map_nil, beq_self_eq_true, hbe]) | (with_reducible refine codeW_seq_k (fun K hK => ?_)) | (with_reducible refine codeW_block ?_) | (with_reducible refine codeW_ret ?_) | (with_reducible refine codeW_label ?_) | (with_reducible refine codeW_scope ?_) | (with_reducible refine codeW_skip ?_) | (with_reducible refine codeW_exit ?_) | (with_reducible refine to_then_normal ?_) | (with_reducible refine to_then_ret ?_) | (with_reducible refine to_then_exit ?_) | (with_reducible refine to_block_normal ?_) | (with_reducible refine to_block_ret ?_) | (with_reducible refine to_block_hit ?_) | (with_reducible refine to_block_miss rfl ?_) | ((with_reducible refine hK _ ?_); clear hK) | (clear hK; (with_reducible refine hK _ ?_); clear hK) | (clear hK; clear hK; (with_reducible refine hK _ ?_); clear hK) | (clear hK; clear hK; clear hK; (with_reducible refine hK _ ?_); clear hK) | (refine codeW_cond rfl ?_; simp only [↓reduceIte, Bool.false_eq_true]) | (intro (b : Bool); cases b))); refine hK1 _ ?_; clear hK1
    (try simp only [List.drop_succ_cons, List.drop_zero]); refine opsW_take 7 (fun K1 hK1 => ?_); simp -implicitDefEqProofs only [opsW_cons, awanted, OpW, aop, undef, AS.ev, put_some, upd_at, initTm, List.getD_cons_zero, ↓reduceIte, Nat.reduceLT, Nat.reduceEqDiff, List.getElem?_cons_zero, List.getElem?_cons_succ, Option.bind_some, List.getElem?_toArray, List.map_cons, List.map_nil, List.take_succ_cons, List.take_zero, beq_self_eq_true]; (repeat (first | ((first | (with_reducible refine codeW_seq_region (fun K E hK hE => ?_)) | (with_reducible refine codeW_region_k (fun K E hK hE => ?_)) | (with_reducible refine funW_pure c5 ?_) | (with_reducible refine callA_pure c5 ?_) | (with_reducible refine funW_pure c6 ?_) | (with_reducible refine callA_pure c6 ?_)); simp -implicitDefEqProofs only [opsW_nil, opsW_cons, awanted, OpW, contW, aop, undef, AS.ev, put_some, upd_at, initTm, List.getD_cons_zero, ↓reduceIte, Nat.reduceLT, Nat.reduceEqDiff, aBin, List.getElem?_cons_zero, List.getElem?_cons_succ, Option.map_some, Option.bind_some, List.getElem?_toArray, List.map_cons, List.map_nil, beq_self_eq_true, hbe]) | (with_reducible refine codeW_seq_k (fun K hK => ?_)) | (with_reducible refine codeW_block ?_) | (with_reducible refine codeW_ret ?_) | (with_reducible refine codeW_label ?_) | (with_reducible refine codeW_scope ?_) | (with_reducible refine codeW_skip ?_) | (with_reducible refine codeW_exit ?_) | (with_reducible refine to_then_normal ?_) | (with_reducible refine to_then_ret ?_) | (with_reducible refine to_then_exit ?_) | (with_reducible refine to_block_normal ?_) | (with_reducible refine to_block_ret ?_) | (with_reducible refine to_block_hit ?_) | (with_reducible refine to_block_miss rfl ?_) | ((with_reducible refine hK _ ?_); clear hK) | (clear hK; (with_reducible refine hK _ ?_); clear hK) | (clear hK; clear hK; (with_reducible refine hK _ ?_); clear hK) | (clear hK; clear hK; clear hK; (with_reducible refine hK _ ?_); clear hK) | (refine codeW_cond rfl ?_; simp only [↓reduceIte, Bool.false_eq_true]) | (intro (b : Bool); cases b))); refine hK1 _ ?_; clear hK1
    (try simp only [List.drop_succ_cons, List.drop_zero]); refine opsW_take 7 (fun K1 hK1 => ?_); simp -implicitDefEqProofs only [opsW_cons, awanted, OpW, aop, undef, AS.ev, put_some, upd_at, initTm, List.getD_cons_zero, ↓reduceIte, Nat.reduceLT, Nat.reduceEqDiff, List.getElem?_cons_zero, List.getElem?_cons_succ, Option.bind_some, List.getElem?_toArray, List.map_cons, List.map_nil, List.take_succ_cons, List.take_zero, beq_self_eq_true]; (repeat (first | ((first | (with_reducible refine codeW_seq_region (fun K E hK hE => ?_)) | (with_reducible refine codeW_region_k (fun K E hK hE => ?_)) | (with_reducible refine funW_pure c7 ?_) | (with_reducible refine callA_pure c7 ?_) | (with_reducible refine funW_pure c8 ?_) | (with_reducible refine callA_pure c8 ?_)); simp -implicitDefEqProofs only [opsW_nil, opsW_cons, awanted, OpW, contW, aop, undef, AS.ev, put_some, upd_at, initTm, List.getD_cons_zero, ↓reduceIte, Nat.reduceLT, Nat.reduceEqDiff, aBin, List.getElem?_cons_zero, List.getElem?_cons_succ, Option.map_some, Option.bind_some, List.getElem?_toArray, List.map_cons, List.map_nil, beq_self_eq_true, hbe]) | (with_reducible refine codeW_seq_k (fun K hK => ?_)) | (with_reducible refine codeW_block ?_) | (with_reducible refine codeW_ret ?_) | (with_reducible refine codeW_label ?_) | (with_reducible refine codeW_scope ?_) | (with_reducible refine codeW_skip ?_) | (with_reducible refine codeW_exit ?_) | (with_reducible refine to_then_normal ?_) | (with_reducible refine to_then_ret ?_) | (with_reducible refine to_then_exit ?_) | (with_reducible refine to_block_normal ?_) | (with_reducible refine to_block_ret ?_) | (with_reducible refine to_block_hit ?_) | (with_reducible refine to_block_miss rfl ?_) | ((with_reducible refine hK _ ?_); clear hK) | (clear hK; (with_reducible refine hK _ ?_); clear hK) | (clear hK; clear hK; (with_reducible refine hK _ ?_); clear hK) | (clear hK; clear hK; clear hK; (with_reducible refine hK _ ?_); clear hK) | (refine codeW_cond rfl ?_; simp only [↓reduceIte, Bool.false_eq_true]) | (intro (b : Bool); cases b))); refine hK1 _ ?_; clear hK1
    (try simp only [List.drop_succ_cons, List.drop_zero])
    simp -implicitDefEqProofs only [opsW_cons, awanted, OpW, AS.ev, upd_at, ↓reduceIte, List.getElem?_cons_zero, List.getElem?_cons_succ, Option.bind_some, List.getElem?_toArray, List.map_nil, beq_self_eq_true]
    repeat (first | ((first | (with_reducible refine codeW_seq_region (fun K E hK hE => ?_)) | (with_reducible refine codeW_region_k (fun K E hK hE => ?_)) | (with_reducible refine funW_pure ca ?_) | (with_reducible refine callA_pure ca ?_)); simp -implicitDefEqProofs only [opsW_nil, opsW_cons, awanted, OpW, contW, aop, AS.ev, put_some, upd_at, ↓reduceIte, Nat.reduceLT, Nat.reduceEqDiff]) | (with_reducible refine codeW_seq_k (fun K hK => ?_)) | (with_reducible refine codeW_block ?_) | (with_reducible refine codeW_ret ?_) | (with_reducible refine codeW_label ?_) | (with_reducible refine codeW_scope ?_) | (with_reducible refine codeW_skip ?_) | (with_reducible refine codeW_exit ?_) | (with_reducible refine to_then_normal ?_) | (with_reducible refine to_then_ret ?_) | (with_reducible refine to_then_exit ?_) | (with_reducible refine to_block_normal ?_) | (with_reducible refine to_block_ret ?_) | (with_reducible refine to_block_hit ?_) | (with_reducible refine to_block_miss rfl ?_) | ((with_reducible refine hK _ ?_); clear hK) | (clear hK; (with_reducible refine hK _ ?_); clear hK) | (clear hK; clear hK; (with_reducible refine hK _ ?_); clear hK) | (clear hK; clear hK; clear hK; (with_reducible refine hK _ ?_); clear hK) | (refine codeW_cond rfl ?_; simp only [↓reduceIte, Bool.false_eq_true]) | (intro (b : Bool); cases b))
    simp only [BodyQ, aResults, aResult, upd, ↓reduceIte, Option.some.injEq, exists_eq_left']
    exact leaves_end List.take_length (.keep (.v _)) ⟨rfl, rfl⟩

/-! a byte more -/
def und (s : ByteArray) : ByteArray := s ++ ({ data := #[95] } : ByteArray)
theorem und_list (s : ByteArray) : (und s).data.toList = s.data.toList ++ [95] := by
  unfold und
  rw [ByteArray.data_append]; simp
theorem und_size (s : ByteArray) : (und s).size = s.size + 1 := by
  rw [Lib.size_eq, und_list, List.length_append, ← Lib.size_eq]; rfl
theorem und_old (s : ByteArray) {k : Nat} (h : k < s.size) : byteAt (und s) k = byteAt s k := by
  unfold byteAt
  rw [und_list, List.getD_eq_getElem?_getD, List.getElem?_append_left (by rwa [← Lib.size_eq]), List.getD_eq_getElem?_getD]
theorem und_new (s : ByteArray) : byteAt (und s) s.size = 95 := by
  unfold byteAt
  rw [und_list, List.getD_eq_getElem?_getD, Lib.size_eq, List.getElem?_append_right (Nat.le_refl _)]
  simp only [Nat.sub_self, List.getElem?_cons_zero, Option.getD_some]; rfl
theorem und_word {f : Int} {s : ByteArray} (h : wordP f s) (hs : s.size < 40) : wordP f (und s) := by
  obtain ⟨h1, h2, h3, h4⟩ := h
  refine ⟨by rw [und_size]; omega, by rw [und_size]; omega, by rw [und_old s (by omega)]; exact h3, fun k hk => ?_⟩
  rw [und_size] at hk
  rcases Nat.lt_or_ge k s.size with hk' | hk'
  · rw [und_old s hk']; exact h4 k hk'
  · have : k = s.size := by omega
    rw [this, und_new]; decide
theorem mk_list {s : ByteArray} {l : List UInt8} (h : s.data.toList = l) : s = ⟨l.toArray⟩ := by
  rw [← h]
theorem res_is {s : ByteArray} (h : resB s = true) : s.data.toList = [99, 111, 110, 115, 116, 114, 97, 105, 110, 116] ∨ s.data.toList = [116, 114, 117, 101] ∨ s.data.toList = [102, 97, 105, 108] ∨ s.data.toList = [105, 115] ∨ s.data.toList = [105, 110, 116] ∨ s.data.toList = [103, 114, 111, 117, 110, 100] := by
  simp only [resB, Bool.or_eq_true, beq_iff_eq, Lib.toList_data] at h
  rcases h with ((((h | h) | h) | h) | h) | h
  · exact .inl h
  · exact .inr (.inl h)
  · exact .inr (.inr (.inl h))
  · exact .inr (.inr (.inr (.inl h)))
  · exact .inr (.inr (.inr (.inr (.inl h))))
  · exact .inr (.inr (.inr (.inr (.inr h))))
theorem res_und (s : ByteArray) : resB (und s) = false := by
  cases hr : resB (und s) with
  | false => rfl
  | true =>
    rcases res_is hr with h | h | h | h | h | h <;> (rw [und_list] at h; have := congrArg List.getLast? h; simp at this)
theorem res_word {s : ByteArray} (h : resB s = true) : wordP 1 s ∧ opB s = false := by
  rcases res_is h with h | h | h | h | h | h <;> (have e := mk_list h; subst e; exact ⟨by decide +kernel, by kernel_rfl⟩)
theorem op_not {s : ByteArray} (f : Int) (h : opB s = true) : ¬ wordP f s := by
  simp only [opB, Bool.or_eq_true, beq_iff_eq, Lib.toList_data] at h
  have stop : ∀ c : UInt8, s.data.toList = [c] → ¬ fol ((c.toNat : Nat) : Int) → ¬ wordP f s := fun c hl hc hw => by
    have := hw.2.2.2 0 hw.1
    unfold byteAt at this
    rw [hl] at this
    exact hc this
  rcases h with (((h | h) | h) | h) | h
  · exact stop _ h (by decide)
  · exact stop _ h (by decide)
  · exact stop _ h (by decide)
  · exact stop _ h (by decide)
  · exact stop _ h (by decide)
theorem op_und (s : ByteArray) : opB (und s) = false := by
  by_cases h : s.size = 0
  · have e : s.data.toList = [] := List.eq_nil_of_length_eq_zero (by rw [← Lib.size_eq]; exact h)
    have := und_list s
    rw [e] at this
    have := mk_list this
    rw [this]
    simp [opB, Lib.toList_data]
  · exact opB_size (by rw [und_size]; omega)
end Go.Proofs.YthkiabcdkhpheaaDoor.Ab
