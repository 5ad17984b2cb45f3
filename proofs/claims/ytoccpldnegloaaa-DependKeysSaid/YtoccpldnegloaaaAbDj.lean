/-
  Keys computes keysL, in the specification.
-/
import Derived.Test.YtoccpldnegloaaaAbDi
import Derived.Test.YtoccpldnegloaaaAbDd
set_option linter.unusedSimpArgs false
set_option linter.unusedVariables false
set_option maxHeartbeats 4000000
set_option maxRecDepth 4000
-- @lean
namespace Go.Proofs.Ytoccpldnegloaaa.Ab
open Go.Proofs

def okOf (o : Option Ky) (out : List Ky) : Bool := o.isSome && !(out.any fun x => x.eqB (o.getD Ky.zero))
theorem addKey_ok {out : List Ky} {r : Rl} (h : okOf (keyOf r) out = true) : addKey out r = out ++ [(keyOf r).getD Ky.zero] := by
  unfold addKey okOf at *
  cases hk : keyOf r with
  | none => rw [hk] at h; simp at h
  | some k =>
    rw [hk] at h
    simp only [Option.isSome, Option.getD, Bool.true_and, Bool.not_eq_true'] at h
    simp only [h, Option.getD]; rfl
theorem addKey_no {out : List Ky} {r : Rl} (h : okOf (keyOf r) out = false) : addKey out r = out := by
  unfold addKey okOf at *
  cases hk : keyOf r with
  | none => rfl
  | some k =>
    rw [hk] at h
    simp only [Option.isSome, Option.getD, Bool.true_and, Bool.not_eq_false'] at h
    simp only [h]; rfl
theorem okOf_step {o : Option Ky} {out : List Ky} {j : Nat} (h : j < out.length) : okOf o (out.take (j + 1)) = (okOf o (out.take j) && !(out[j]).eqB (o.getD Ky.zero)) := by
  simp only [okOf]
  rw [List.take_succ_eq_append_getElem h, List.any_append]
  simp only [List.any_cons, List.any_nil, Bool.or_false, Bool.not_or, Bool.and_assoc]

theorem refKeys_pure (p : Pg) (hn : p.rules.length ≤ 100000) (hf : ∀ r ∈ p.rules, fineR r) : Pure Try.prog 12 [p.av] (.sl 3 (vs Ky.av (keysL p.rules)) none) := by
  intro h
  refine callW_of_body Try.func12 rfl Try.call12 Try.ntmps12 (congrArg Array.toList Try.results12) (by simp) ?_
  repeat (first | ((first | (with_reducible refine codeW_seq_region (fun K E hK hE => ?_)) | (with_reducible refine codeW_region_k (fun K E hK hE => ?_)) | (refine codeW_seq_any (id := 9) [(0, 0), (1, 0), (2, 0), (3, 0), (4, 0), (5, 0), (6, 0), (7, 1), (8, 0), (9, 0), (10, 0)] mixed (by kernel_rfl) (fun K hK => ?_)) | (refine codeW_region_any (id := 9) [(0, 0), (1, 0), (2, 0), (3, 0), (4, 0), (5, 0), (6, 0), (7, 1), (8, 0), (9, 0), (10, 0)] mixed (by kernel_rfl) (fun K hK => ?_))); simp -implicitDefEqProofs only [opsW_nil, opsW_cons, awanted, OpW, aop, undef, AS.ev, put_some, ofV_int, ofV_slice, initTm, List.getD_cons_zero, AV.cells1, List.all_cons, List.all_nil, cell1_sl, Bool.and_self, ↓reduceIte, List.length_cons, List.length_nil, Nat.reduceAdd, Nat.reduceLT, Nat.zero_add, Pg.cells]) | (with_reducible refine codeW_seq_k (fun K hK => ?_)) | (with_reducible refine codeW_block ?_) | (with_reducible refine codeW_ret ?_) | (with_reducible refine codeW_label ?_) | (with_reducible refine codeW_scope ?_) | (with_reducible refine codeW_skip ?_) | (with_reducible refine codeW_exit ?_) | (with_reducible refine to_then_normal ?_) | (with_reducible refine to_then_ret ?_) | (with_reducible refine to_then_exit ?_) | (with_reducible refine to_block_normal ?_) | (with_reducible refine to_block_ret ?_) | (with_reducible refine to_block_hit ?_) | (with_reducible refine to_block_miss rfl ?_) | ((with_reducible refine hK _ ?_); clear hK) | (clear hK; (with_reducible refine hK _ ?_); clear hK) | (clear hK; clear hK; (with_reducible refine hK _ ?_); clear hK) | (clear hK; clear hK; clear hK; (with_reducible refine hK _ ?_); clear hK) | (refine codeW_cond rfl ?_; simp only [↓reduceIte, Bool.false_eq_true]) | (intro (b : Bool); cases b))
  refine codeW_token 3 30 3 rfl ?_
  obtain ⟨I, hI⟩ : ∃ I : Nat → AS → Prop, I = fun m' s => ∃ (j : Nat) (L : AH), m' = p.rules.length - j ∧ j ≤ p.rules.length ∧ s.tm 1 = .ptr h.length 0 0 ∧ s.tm 3 = .sl 3 (vs Ky.av (keysL (p.rules.take j))) (some (h.length + 1)) ∧ s.tm 4 = .i j ∧ s.h = h ++ ([.cells 25 2 [p.av], .grow 30 3 (keysL (p.rules.take j)).length] ++ L) := ⟨_, rfl⟩; refine codeW_loop I ?_ (m := p.rules.length) ?_
  · intro m' s hs; rw [hI] at hs; obtain ⟨tm, hp⟩ := s; dsimp only at hs; obtain ⟨j, L, rfl, hj, t1, t3, t4, rfl⟩ := hs
    by_cases hlt : j < p.rules.length
    · obtain ⟨f1, f2⟩ := hf _ (List.getElem_mem hlt)
      have c := refOfRule_pure p.rules[j] f1 f2
      obtain ⟨k1, k2⟩ := keysL_fine hf j (by omega)
      have hks := keysL_take_succ hlt
      have hkl : ∀ k, keyOf p.rules[j] = some k → k.pos.length ≤ 1000000 := fun k hk => keyOf_len ⟨f1, f2⟩ hk
      unfold keyAV at c
      generalize hko : (keyOf p.rules[j]).getD Ky.zero = ky at c
      generalize hout : keysL (p.rules.take j) = out at *
      repeat (first | ((first | (with_reducible refine codeW_seq_region (fun K E hK hE => ?_)) | (with_reducible refine codeW_region_k (fun K E hK hE => ?_)) | (with_reducible refine funW_pure c ?_) | (with_reducible refine callA_pure c ?_) | (refine codeW_seq_any (id := 9) [(0, 0), (1, 0), (2, 0), (3, 0), (4, 0), (5, 0), (6, 0), (7, 1), (8, 0), (9, 0), (10, 0)] mixed (by kernel_rfl) (fun K hK => ?_)) | (refine codeW_region_any (id := 9) [(0, 0), (1, 0), (2, 0), (3, 0), (4, 0), (5, 0), (6, 0), (7, 1), (8, 0), (9, 0), (10, 0)] mixed (by kernel_rfl) (fun K hK => ?_))); simp -implicitDefEqProofs only [opsW_nil, opsW_cons, awanted, OpW, contW, aop, undef, AS.ev, put_some, put_none, ofV_int, upd_at, AV.cells1, cells_agg, isAgg_agg, List.all_cons, List.all_nil, cell1_int, cell1_str, cell1_slice, cell1_sl, Bool.and_self, ↓reduceIte, List.length_cons, List.length_nil, Nat.reduceAdd, Nat.reduceLT, Nat.reduceEqDiff, Nat.zero_add, and_self, aFieldAddr, aLoad, aPart, aStore, aSetPart, aIndexAddr, aBin, aExtract, aLen, hget0, hget, hset0, hset, hlen, happ, List.getElem?_cons_zero, List.getElem?_cons_succ, List.set_cons_zero, List.set_cons_succ, Option.map_some, List.map_cons, List.map_nil, List.cons_append, List.nil_append, pv_lss, goInt, decide_true, Int.toNat_natCast, Int.natCast_nonneg, Int.ofNat_lt, ti23, ei23, un23, fi25_1, ti30, zi30, ti36, t1, t4, hlt, vs_length, vs_get Rl.av hlt, Pg.cells, Rl.cells, Rl.isAgg, Ky.cells, Ky.isAgg]) | (with_reducible refine codeW_seq_k (fun K hK => ?_)) | (with_reducible refine codeW_block ?_) | (with_reducible refine codeW_ret ?_) | (with_reducible refine codeW_label ?_) | (with_reducible refine codeW_scope ?_) | (with_reducible refine codeW_skip ?_) | (with_reducible refine codeW_exit ?_) | (with_reducible refine to_then_normal ?_) | (with_reducible refine to_then_ret ?_) | (with_reducible refine to_then_exit ?_) | (with_reducible refine to_block_normal ?_) | (with_reducible refine to_block_ret ?_) | (with_reducible refine to_block_hit ?_) | (with_reducible refine to_block_miss rfl ?_) | ((with_reducible refine hK _ ?_); clear hK) | (clear hK; (with_reducible refine hK _ ?_); clear hK) | (clear hK; clear hK; (with_reducible refine hK _ ?_); clear hK) | (clear hK; clear hK; clear hK; (with_reducible refine hK _ ?_); clear hK) | (refine codeW_cond rfl ?_; simp only [↓reduceIte]) | (intro (b : Bool); cases b))
      have hI0 := hI
      obtain ⟨I, hI⟩ : ∃ I : Nat → AS → Prop, I = fun m' s => ∃ (i : Nat) (L : AH) (q : Nat), m' = out.length - i ∧ i ≤ out.length ∧ L[q]? = some (.cells 30 3 [ky.av]) ∧ s.tm 1 = .ptr h.length 0 0 ∧ s.tm 3 = .sl 3 (vs Ky.av out) (some (h.length + 1)) ∧ s.tm 4 = .i j ∧ s.tm 5 = .ptr (h.length + (q + 1 + 1)) 0 0 ∧ s.tm 6 = .b (okOf (keyOf p.rules[j]) (out.take i)) ∧ s.tm 7 = .i i ∧ s.h = h ++ (AB.cells 25 2 [p.av] :: AB.grow 30 3 out.length :: L) := ⟨_, rfl⟩; refine codeW_loop I ?_ (m := out.length) ?_
      · clear L
        intro m' s hs; rw [hI] at hs; obtain ⟨tm, hp⟩ := s; dsimp only at hs; obtain ⟨i, L, q, rfl, hi, hq, t1, t3, t4, t5, t6, t7, rfl⟩ := hs
        have hqM : ∀ M : AH, (L ++ M)[q]? = some (.cells 30 3 [ky.av]) := fun M => hext hq M
        by_cases hlt2 : i < out.length
        · have hst := okOf_step (o := keyOf p.rules[j]) hlt2
          rw [hko] at hst
          have cs := refSameK_pure out[i] ky (k2 _ (List.getElem_mem hlt2))
          cases hacc : okOf (keyOf p.rules[j]) (out.take i) with
          | true =>
            rw [hacc] at t6
            rw [hacc, Bool.true_and] at hst
            repeat (first | ((first | (with_reducible refine codeW_seq_region (fun K E hK hE => ?_)) | (with_reducible refine codeW_region_k (fun K E hK hE => ?_)) | (with_reducible refine funW_pure cs ?_) | (with_reducible refine callA_pure cs ?_) | (refine codeW_seq_any (id := 9) [(0, 0), (1, 0), (2, 0), (3, 0), (4, 0), (5, 0), (6, 0), (7, 1), (8, 0), (9, 0), (10, 0)] mixed (by kernel_rfl) (fun K hK => ?_)) | (refine codeW_region_any (id := 9) [(0, 0), (1, 0), (2, 0), (3, 0), (4, 0), (5, 0), (6, 0), (7, 1), (8, 0), (9, 0), (10, 0)] mixed (by kernel_rfl) (fun K hK => ?_))); simp -implicitDefEqProofs only [anyW_nil, anyW_cons, anyO_eq, opsW_nil, opsW_cons, awanted, OpW, aop, AS.ev, put_some, ofV_int, upd_at, ↓reduceIte, List.length_cons, List.length_nil, Nat.reduceAdd, Nat.reduceLT, Nat.reduceLeDiff, Nat.reduceEqDiff, Nat.zero_add, and_self, aLoad, aPart, aIndexAddr, aBin, aLen, hget, List.getElem?_cons_zero, List.getElem?_cons_succ, Option.map_some, Option.bind_some, List.getElem?_toArray, List.map_cons, List.map_nil, pv_lss, pv_add, pv_not, goInt, decide_true, beq_self_eq_true, Int.toNat_natCast, Int.natCast_nonneg, Int.ofNat_lt, ti30, ei38, un38, t3, t5, t6, t7, hlt2, hq, vs_length, vs_get Ky.av hlt2, Ky.cells, Ky.isAgg]) | (with_reducible refine codeW_seq_k (fun K hK => ?_)) | (with_reducible refine codeW_block ?_) | (with_reducible refine codeW_ret ?_) | (with_reducible refine codeW_label ?_) | (with_reducible refine codeW_scope ?_) | (with_reducible refine codeW_skip ?_) | (with_reducible refine codeW_exit ?_) | (with_reducible refine to_then_normal ?_) | (with_reducible refine to_then_ret ?_) | (with_reducible refine to_then_exit ?_) | (with_reducible refine to_block_normal ?_) | (with_reducible refine to_block_ret ?_) | (with_reducible refine to_block_hit ?_) | (with_reducible refine to_block_miss rfl ?_) | ((with_reducible refine hK _ ?_); clear hK) | (clear hK; (with_reducible refine hK _ ?_); clear hK) | (clear hK; clear hK; (with_reducible refine hK _ ?_); clear hK) | (clear hK; clear hK; clear hK; (with_reducible refine hK _ ?_); clear hK) | (refine codeW_cond rfl ?_; simp only [↓reduceIte]) | (intro (b : Bool); cases b))
            refine Onward.mk (m' := out.length - (i + 1)) (by omega) ?_
            rw [hI]
            refine ⟨i + 1, L, q, rfl, hlt2, hq, t1, t3, t4, t5, ?_, ?_, rfl⟩
            · simp only [upd, ↓reduceIte, Nat.reduceEqDiff]
              rw [hst]
            · simp only [upd, ↓reduceIte]
              rw [wrap_nat (by omega)]
          | false =>
            rw [hacc] at t6
            rw [hacc, Bool.false_and] at hst
            repeat (first | ((first | (with_reducible refine codeW_seq_region (fun K E hK hE => ?_)) | (with_reducible refine codeW_region_k (fun K E hK hE => ?_)) | (with_reducible refine funW_pure cs ?_) | (with_reducible refine callA_pure cs ?_) | (refine codeW_seq_any (id := 9) [(0, 0), (1, 0), (2, 0), (3, 0), (4, 0), (5, 0), (6, 0), (7, 1), (8, 0), (9, 0), (10, 0)] mixed (by kernel_rfl) (fun K hK => ?_)) | (refine codeW_region_any (id := 9) [(0, 0), (1, 0), (2, 0), (3, 0), (4, 0), (5, 0), (6, 0), (7, 1), (8, 0), (9, 0), (10, 0)] mixed (by kernel_rfl) (fun K hK => ?_))); simp -implicitDefEqProofs only [anyW_nil, anyW_cons, anyO_eq, opsW_nil, opsW_cons, awanted, OpW, aop, undef, AS.ev, put_some, ofV_int, ofV_bool, upd_at, ↓reduceIte, Nat.reduceLT, Nat.reduceEqDiff, aBin, aLen, List.getElem?_cons_zero, List.getElem?_cons_succ, Option.map_some, Option.bind_some, List.getElem?_toArray, pv_lss, pv_add, goInt, decide_true, Int.ofNat_lt, Bool.false_eq_true, beq_true, un38, t3, t6, t7, hlt2, vs_length]) | (with_reducible refine codeW_seq_k (fun K hK => ?_)) | (with_reducible refine codeW_block ?_) | (with_reducible refine codeW_ret ?_) | (with_reducible refine codeW_label ?_) | (with_reducible refine codeW_scope ?_) | (with_reducible refine codeW_skip ?_) | (with_reducible refine codeW_exit ?_) | (with_reducible refine to_then_normal ?_) | (with_reducible refine to_then_ret ?_) | (with_reducible refine to_then_exit ?_) | (with_reducible refine to_block_normal ?_) | (with_reducible refine to_block_ret ?_) | (with_reducible refine to_block_hit ?_) | (with_reducible refine to_block_miss rfl ?_) | ((with_reducible refine hK _ ?_); clear hK) | (clear hK; (with_reducible refine hK _ ?_); clear hK) | (clear hK; clear hK; (with_reducible refine hK _ ?_); clear hK) | (clear hK; clear hK; clear hK; (with_reducible refine hK _ ?_); clear hK) | (refine codeW_cond rfl ?_; simp only [↓reduceIte]) | (intro (b : Bool); cases b))
            refine Onward.mk (m' := out.length - (i + 1)) (by omega) ?_
            rw [hI]
            refine ⟨i + 1, L, q, rfl, hlt2, hq, t1, t3, t4, t5, ?_, ?_, rfl⟩
            · simp only [upd, ↓reduceIte, Nat.reduceEqDiff]
              rw [hst]
            · simp only [upd, ↓reduceIte]
              rw [wrap_nat (by omega)]
        · have hil : i = out.length := by omega
          rw [hil, List.take_length] at t6
          have hml : (vs Ky.av out).length = out.length := vs_length _ _
          have b1 : out.length + 1 ≤ maxLen := by simp only [maxLen]; omega
          have b2 : (out.length + 1) * 48 ≤ 140737488355328 := by omega
          cases hacc : okOf (keyOf p.rules[j]) out with
          | true =>
            have hsame := addKey_ok hacc
            rw [hko] at hsame
            rw [hacc] at t6
            repeat (first | ((first | (with_reducible refine codeW_seq_region (fun K E hK hE => ?_)) | (with_reducible refine codeW_region_k (fun K E hK hE => ?_)) | (refine codeW_seq_any (id := 9) [(0, 0), (1, 0), (2, 0), (3, 0), (4, 0), (5, 0), (6, 0), (7, 1), (8, 0), (9, 0), (10, 0)] mixed (by kernel_rfl) (fun K hK => ?_)) | (refine codeW_region_any (id := 9) [(0, 0), (1, 0), (2, 0), (3, 0), (4, 0), (5, 0), (6, 0), (7, 1), (8, 0), (9, 0), (10, 0)] mixed (by kernel_rfl) (fun K hK => ?_))); simp -implicitDefEqProofs only [opsW_nil, opsW_cons, awanted, OpW, aop, AS.ev, put_some, ofV_int, upd_at, AV.cells1, cells_agg, List.all_cons, List.all_nil, cell1_int, cell1_str, cell1_slice, cell1_sl, Bool.and_self, ↓reduceIte, List.length_cons, List.length_nil, Nat.reduceAdd, Nat.reduceLT, Nat.reduceLeDiff, Nat.reduceEqDiff, Nat.reduceMul, Nat.zero_add, and_self, aLoad, aPart, aBin, aBuildSlice, aLen, aAppend, srcOf, hget, hset, List.getElem?_cons_zero, List.getElem?_cons_succ, List.set_cons_zero, List.set_cons_succ, Option.map_some, List.map_cons, List.map_nil, pv_lss, pv_add, goInt, decide_false, beq_self_eq_true, Int.ofNat_lt, rng1, any_some', Nat.reducePow, ti30, zi30, ei38, ai38, un38, t3, t4, t5, t6, t7, hlt2, hq, Ky.cells, Ky.isAgg, hml, b1, b2]) | (with_reducible refine codeW_seq_k (fun K hK => ?_)) | (with_reducible refine codeW_block ?_) | (with_reducible refine codeW_ret ?_) | (with_reducible refine codeW_label ?_) | (with_reducible refine codeW_scope ?_) | (with_reducible refine codeW_skip ?_) | (with_reducible refine codeW_exit ?_) | (with_reducible refine to_then_normal ?_) | (with_reducible refine to_then_ret ?_) | (with_reducible refine to_then_exit ?_) | (with_reducible refine to_block_normal ?_) | (with_reducible refine to_block_ret ?_) | (with_reducible refine to_block_hit ?_) | (with_reducible refine to_block_miss rfl ?_) | ((with_reducible refine hK _ ?_); clear hK) | (clear hK; (with_reducible refine hK _ ?_); clear hK) | (clear hK; clear hK; (with_reducible refine hK _ ?_); clear hK) | (clear hK; clear hK; clear hK; (with_reducible refine hK _ ?_); clear hK) | (refine codeW_cond rfl ?_; simp only [↓reduceIte, Bool.false_eq_true]) | (intro (b : Bool); cases b))
            refine Onward.mk (m' := p.rules.length - (j + 1)) (by omega) ?_
            rw [hI0]
            refine ⟨j + 1, _, rfl, hlt, t1, ?_, ?_, by rw [hks, hsame, List.length_append]; rfl⟩
            · simp only [upd, ↓reduceIte, Nat.reduceEqDiff]
              rw [hks, hsame, vs_append, vs_one]
            · simp only [upd, ↓reduceIte]
              rw [wrap_nat (by omega)]
          | false =>
            have hsame := addKey_no hacc
            rw [hacc] at t6
            repeat (first | ((first | (with_reducible refine codeW_seq_region (fun K E hK hE => ?_)) | (with_reducible refine codeW_region_k (fun K E hK hE => ?_)) | (refine codeW_seq_any (id := 9) [(0, 0), (1, 0), (2, 0), (3, 0), (4, 0), (5, 0), (6, 0), (7, 1), (8, 0), (9, 0), (10, 0)] mixed (by kernel_rfl) (fun K hK => ?_)) | (refine codeW_region_any (id := 9) [(0, 0), (1, 0), (2, 0), (3, 0), (4, 0), (5, 0), (6, 0), (7, 1), (8, 0), (9, 0), (10, 0)] mixed (by kernel_rfl) (fun K hK => ?_))); simp -implicitDefEqProofs only [opsW_nil, opsW_cons, awanted, OpW, aop, AS.ev, put_some, ofV_int, upd_at, ↓reduceIte, Nat.reduceLT, Nat.reduceEqDiff, aBin, aLen, Option.map_some, pv_lss, pv_add, goInt, decide_false, Int.ofNat_lt, un38, t3, t4, t6, t7, hlt2, vs_length]) | (with_reducible refine codeW_seq_k (fun K hK => ?_)) | (with_reducible refine codeW_block ?_) | (with_reducible refine codeW_ret ?_) | (with_reducible refine codeW_label ?_) | (with_reducible refine codeW_scope ?_) | (with_reducible refine codeW_skip ?_) | (with_reducible refine codeW_exit ?_) | (with_reducible refine to_then_normal ?_) | (with_reducible refine to_then_ret ?_) | (with_reducible refine to_then_exit ?_) | (with_reducible refine to_block_normal ?_) | (with_reducible refine to_block_ret ?_) | (with_reducible refine to_block_hit ?_) | (with_reducible refine to_block_miss rfl ?_) | ((with_reducible refine hK _ ?_); clear hK) | (clear hK; (with_reducible refine hK _ ?_); clear hK) | (clear hK; clear hK; (with_reducible refine hK _ ?_); clear hK) | (clear hK; clear hK; clear hK; (with_reducible refine hK _ ?_); clear hK) | (refine codeW_cond rfl ?_; simp only [↓reduceIte, Bool.false_eq_true]) | (intro (b : Bool); cases b))
            refine Onward.mk (m' := p.rules.length - (j + 1)) (by omega) ?_
            rw [hI0]
            refine ⟨j + 1, _, rfl, hlt, t1, by rw [hks, hsame]; exact t3, ?_, by rw [hks, hsame]; rfl⟩
            simp only [upd, ↓reduceIte]
            rw [wrap_nat (by omega)]
      · rw [hI]
        exact ⟨0, _, L.length, by omega, Nat.zero_le _, by rw [List.getElem?_append_right (Nat.le_refl _)]; simp, t1, t3, t4, rfl, by simp [okOf, upd], rfl, rfl⟩
    · have hjl : j = p.rules.length := by omega
      rw [hjl, List.take_length] at t3
      repeat (first | ((first | (with_reducible refine codeW_seq_region (fun K E hK hE => ?_)) | (with_reducible refine codeW_region_k (fun K E hK hE => ?_)) | (refine codeW_seq_any (id := 9) [(0, 0), (1, 0), (2, 0), (3, 0), (4, 0), (5, 0), (6, 0), (7, 1), (8, 0), (9, 0), (10, 0)] mixed (by kernel_rfl) (fun K hK => ?_)) | (refine codeW_region_any (id := 9) [(0, 0), (1, 0), (2, 0), (3, 0), (4, 0), (5, 0), (6, 0), (7, 1), (8, 0), (9, 0), (10, 0)] mixed (by kernel_rfl) (fun K hK => ?_))); simp -implicitDefEqProofs only [opsW_nil, opsW_cons, awanted, OpW, aop, AS.ev, put_some, upd_at, ↓reduceIte, Nat.reduceLT, Nat.reduceEqDiff, Nat.zero_add, aFieldAddr, aLoad, aPart, aBin, aLen, hget0, List.getElem?_cons_zero, List.getElem?_cons_succ, Option.map_some, List.cons_append, List.nil_append, pv_lss, goInt, decide_false, Int.ofNat_lt, ti23, un23, fi25_1, t1, t3, t4, hlt, vs_length, Pg.cells]) | (with_reducible refine codeW_seq_k (fun K hK => ?_)) | (with_reducible refine codeW_block ?_) | (with_reducible refine codeW_ret ?_) | (with_reducible refine codeW_label ?_) | (with_reducible refine codeW_scope ?_) | (with_reducible refine codeW_skip ?_) | (with_reducible refine codeW_exit ?_) | (with_reducible refine to_then_normal ?_) | (with_reducible refine to_then_ret ?_) | (with_reducible refine to_then_exit ?_) | (with_reducible refine to_block_normal ?_) | (with_reducible refine to_block_ret ?_) | (with_reducible refine to_block_hit ?_) | (with_reducible refine to_block_miss rfl ?_) | ((with_reducible refine hK _ ?_); clear hK) | (clear hK; (with_reducible refine hK _ ?_); clear hK) | (clear hK; clear hK; (with_reducible refine hK _ ?_); clear hK) | (clear hK; clear hK; clear hK; (with_reducible refine hK _ ?_); clear hK) | (refine codeW_cond rfl ?_; simp only [↓reduceIte, Bool.false_eq_true]) | (intro (b : Bool); cases b))
      simp only [BodyQ, aResults, aResult, upd, ↓reduceIte, Option.some.injEq, exists_eq_left']; first | refine leaves_end (htake _ _) (.tok (vs_flat _ _ (Ky.bel _) _)) ⟨rfl, rfl⟩ | refine leaves_end List.take_length (.tok (vs_flat _ _ (Ky.bel _) _)) ⟨rfl, rfl⟩
  · rw [hI]
    exact ⟨0, [], by omega, Nat.zero_le _, rfl, by simp [upd, keysL, vs], rfl, by simp [keysL]⟩
end Go.Proofs.Ytoccpldnegloaaa.Ab
