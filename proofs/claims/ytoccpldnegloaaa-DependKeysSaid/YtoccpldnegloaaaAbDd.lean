/-
  Keys computes keysL.
-/
import Derived.Test.YtoccpldnegloaaaAbDc
import Derived.Test.YtoccpldnegloaaaAbD5
set_option linter.unusedSimpArgs false
set_option linter.unusedVariables false
set_option maxHeartbeats 4000000
set_option maxRecDepth 4000
-- @lean
namespace Go.Proofs.Ytoccpldnegloaaa.Ab
open Go.Proofs

/-! programs; the keys of a program -/
structure Dc where
  name : ByteArray
  arity : Int
def Dc.av (d : Dc) : AV := .agg [.v (.string d.name), .i d.arity]
structure Pg where
  decls : List Dc
  rules : List Rl
def Pg.av (p : Pg) : AV := .agg [.sl 2 (vs Dc.av p.decls) none, .sl 6 (vs Rl.av p.rules) none]
theorem Pg.cells (p : Pg) : p.av.cells = [.sl 2 (vs Dc.av p.decls) none, .sl 6 (vs Rl.av p.rules) none] := rfl
theorem Pg.isAgg (p : Pg) : p.av.isAgg = true := rfl

def addKey (out : List Ky) (r : Rl) : List Ky := match keyOf r with
  | some k => if (out.any fun x => x.eqB k) = true then out else out ++ [k]
  | none => out
def keysL (rs : List Rl) : List Ky := rs.foldl addKey []
theorem keysL_take_succ {rs : List Rl} {j : Nat} (h : j < rs.length) : keysL (rs.take (j + 1)) = addKey (keysL (rs.take j)) rs[j] := by
  rw [List.take_succ_eq_append_getElem h, keysL, List.foldl_append]; rfl
theorem addKey_le (out : List Ky) (r : Rl) : (addKey out r).length ≤ out.length + 1 := by
  unfold addKey
  split
  · split
    · omega
    · simp
  · omega
def fineR (r : Rl) : Prop := r.keep.length + r.remove.length ≤ 1000000 ∧ ∀ g ∈ r.keep ++ r.remove, g.args.length ≤ 1000000
theorem posL_len : ∀ (b l : List T) (i : Nat) (acc ps : List Int), posL b i l acc = some ps → ps.length ≤ acc.length + l.length
  | b, [], i, acc, ps, h => by simp only [posL] at h; cases h; simp
  | b, t :: l, i, acc, ps, h => by
    simp only [posL] at h
    split at h
    · split at h
      · have := posL_len b l _ _ ps h
        simp only [List.length_append, List.length_cons, List.length_nil] at this ⊢; omega
      · cases h
    · have := posL_len b l _ _ ps h
      simp only [List.length_cons]; omega
theorem keyOf_len {r : Rl} {k : Ky} (hr : fineR r) (h : keyOf r = some k) : k.pos.length ≤ 1000000 := by
  unfold keyOf at h
  split at h
  · rename_i a b hx
    split at h
    · cases h
    · cases hp : posL b.args 0 a.args [] with
      | none => rw [hp] at h; cases h
      | some ps =>
        rw [hp] at h
        cases h
        have h1 := posL_len b.args a.args 0 [] ps hp
        have h2 := hr.2 a (by rw [hx]; simp)
        simp only [List.length_nil] at h1
        show ps.length ≤ 1000000
        omega
  · cases h
theorem addKey_fine {out : List Ky} {r : Rl} (hr : fineR r) (h : ∀ k ∈ out, k.pos.length ≤ 1000000) : ∀ k ∈ addKey out r, k.pos.length ≤ 1000000 := by
  unfold addKey
  split
  · rename_i k hk
    split
    · exact h
    · intro x hx
      rcases List.mem_append.1 hx with hx | hx
      · exact h x hx
      · simp at hx; subst hx; exact keyOf_len hr hk
  · exact h
theorem keysL_fine {rs : List Rl} (h : ∀ r ∈ rs, fineR r) : ∀ j, j ≤ rs.length → (keysL (rs.take j)).length ≤ j ∧ ∀ k ∈ keysL (rs.take j), k.pos.length ≤ 1000000
  | 0, _ => by simp [keysL]
  | j + 1, hj => by
    obtain ⟨h1, h2⟩ := keysL_fine h j (by omega)
    have hlt : j < rs.length := by omega
    rw [keysL_take_succ hlt]
    have := addKey_le (keysL (rs.take j)) rs[j]
    exact ⟨by omega, addKey_fine (h _ (List.getElem_mem hlt)) h2⟩

theorem equalTo_call (k x : Ky) (hx : x.pos.length ≤ 1000000) (id : Nat) (h : AH) (hid : h[id]? = some (.cells 30 3 [k.av])) : CallW Try.prog 25 [x.av, .ptr id 0 0] h fun o h' => o = .ret (.b (x.eqB k)) ∧ h' = h := by
  have c := equal_pure x k hx
  have hx : ∀ L : AH, (h ++ L)[id]? = some (.cells 30 3 [k.av]) := fun L => hext hid L
  refine callW_of_body Try.func25 rfl Try.call25 Try.ntmps25 (congrArg Array.toList Try.results25) (by simp) ?_
  repeat (first | ((first | (with_reducible refine codeW_seq_region (fun K E hK hE => ?_)) | (with_reducible refine codeW_region_k (fun K E hK hE => ?_)) | (with_reducible refine funW_pure c ?_) | (with_reducible refine callA_pure c ?_)); simp -implicitDefEqProofs only [opsW_nil, opsW_cons, awanted, OpW, contW, aop, undef, AS.ev, put_some, ofV_bool, upd_at, initTm, List.getD_cons_zero, List.getD_cons_succ, AV.cells1, List.all_cons, List.all_nil, cell1_int, cell1_str, cell1_sl, Bool.and_self, ↓reduceIte, List.length_cons, List.length_nil, Nat.reduceAdd, Nat.reduceLT, Nat.reduceEqDiff, Nat.zero_add, and_self, aLoad, aPart, hget0, List.getElem?_cons_zero, Option.map_some, List.map_cons, List.map_nil, ti30, Ky.cells, Ky.isAgg, hx]) | (with_reducible refine codeW_seq_k (fun K hK => ?_)) | (with_reducible refine codeW_block ?_) | (with_reducible refine codeW_ret ?_) | (with_reducible refine codeW_label ?_) | (with_reducible refine codeW_scope ?_) | (with_reducible refine codeW_skip ?_) | (with_reducible refine codeW_exit ?_) | (with_reducible refine to_then_normal ?_) | (with_reducible refine to_then_ret ?_) | (with_reducible refine to_then_exit ?_) | (with_reducible refine to_block_normal ?_) | (with_reducible refine to_block_ret ?_) | (with_reducible refine to_block_hit ?_) | (with_reducible refine to_block_miss rfl ?_) | ((with_reducible refine hK _ ?_); clear hK) | (clear hK; (with_reducible refine hK _ ?_); clear hK) | (clear hK; clear hK; (with_reducible refine hK _ ?_); clear hK) | (clear hK; clear hK; clear hK; (with_reducible refine hK _ ?_); clear hK) | (refine codeW_cond rfl ?_; simp only [↓reduceIte, Bool.false_eq_true]) | (intro (b : Bool); cases b))
  simp only [BodyQ, aResults, aResult, upd, ↓reduceIte, Option.some.injEq, exists_eq_left']; first | refine leaves_end (htake _ _) (.keep (.v _)) ⟨rfl, rfl⟩ | refine leaves_end List.take_length (.keep (.v _)) ⟨rfl, rfl⟩

theorem keys_pure (p : Pg) (hn : p.rules.length ≤ 100000) (hf : ∀ r ∈ p.rules, fineR r) : Pure Try.prog 11 [p.av] (.sl 3 (vs Ky.av (keysL p.rules)) none) := by
  intro h
  refine callW_of_body Try.func11 rfl Try.call11 Try.ntmps11 (congrArg Array.toList Try.results11) (by simp) ?_
  repeat (first | ((first | (with_reducible refine codeW_seq_region (fun K E hK hE => ?_)) | (with_reducible refine codeW_region_k (fun K E hK hE => ?_))); simp -implicitDefEqProofs only [opsW_nil, opsW_cons, awanted, OpW, aop, undef, AS.ev, put_some, ofV_int, ofV_slice, upd_at, initTm, List.getD_cons_zero, AV.cells1, List.all_cons, List.all_nil, cell1_sl, Bool.and_self, ↓reduceIte, List.length_cons, List.length_nil, Nat.reduceAdd, Nat.reduceLT, Nat.reduceEqDiff, Nat.zero_add, aFieldAddr, aLoad, aPart, aLen, hget0, List.getElem?_cons_zero, List.getElem?_cons_succ, Option.map_some, goInt, ti23, un23, fi25_1, Pg.cells, vs_length]) | (with_reducible refine codeW_seq_k (fun K hK => ?_)) | (with_reducible refine codeW_block ?_) | (with_reducible refine codeW_ret ?_) | (with_reducible refine codeW_label ?_) | (with_reducible refine codeW_scope ?_) | (with_reducible refine codeW_skip ?_) | (with_reducible refine codeW_exit ?_) | (with_reducible refine to_then_normal ?_) | (with_reducible refine to_then_ret ?_) | (with_reducible refine to_then_exit ?_) | (with_reducible refine to_block_normal ?_) | (with_reducible refine to_block_ret ?_) | (with_reducible refine to_block_hit ?_) | (with_reducible refine to_block_miss rfl ?_) | ((with_reducible refine hK _ ?_); clear hK) | (clear hK; (with_reducible refine hK _ ?_); clear hK) | (clear hK; clear hK; (with_reducible refine hK _ ?_); clear hK) | (clear hK; clear hK; clear hK; (with_reducible refine hK _ ?_); clear hK) | (refine codeW_cond rfl ?_; simp only [↓reduceIte, Bool.false_eq_true]) | (intro (b : Bool); cases b))
  refine codeW_token 3 30 3 rfl ?_
  obtain ⟨I, hI⟩ : ∃ I : Nat → AS → Prop, I = fun m' s => ∃ (j : Nat) (L : AH), m' = p.rules.length - j ∧ j ≤ p.rules.length ∧ s.tm 3 = .sl 3 (vs Ky.av (keysL (p.rules.take j))) (some (h.length + 1)) ∧ s.tm 9 = .sl 6 (vs Rl.av p.rules) none ∧ s.tm 10 = .i p.rules.length ∧ s.tm 11 = .i j ∧ s.h = h ++ ([.cells 25 2 [p.av], .grow 30 3 (keysL (p.rules.take j)).length] ++ L) := ⟨_, rfl⟩; refine codeW_loop I ?_ (m := p.rules.length) ?_
  · intro m' s hs; rw [hI] at hs; obtain ⟨tm, hp⟩ := s; dsimp only at hs; obtain ⟨j, L, rfl, hj, t3, t9, t10, t11, rfl⟩ := hs
    by_cases hlt : j < p.rules.length
    · obtain ⟨f1, f2⟩ := hf _ (List.getElem_mem hlt)
      have c := ofRule_pure p.rules[j] f1 f2
      obtain ⟨k1, k2⟩ := keysL_fine hf j (by omega)
      have hks := keysL_take_succ hlt
      cases hk : keyOf p.rules[j] with
      | none =>
        rw [hk, keyAV] at c
        have hsame : keysL (p.rules.take (j + 1)) = keysL (p.rules.take j) := by rw [hks, addKey, hk]
        repeat (first | ((first | (with_reducible refine codeW_seq_region (fun K E hK hE => ?_)) | (with_reducible refine codeW_region_k (fun K E hK hE => ?_)) | (with_reducible refine funW_pure c ?_) | (with_reducible refine callA_pure c ?_)); simp -implicitDefEqProofs only [opsW_nil, opsW_cons, awanted, OpW, contW, aop, undef, AS.ev, put_some, put_none, ofV_int, ofV_bool, upd_at, AV.cells1, cells_agg, isAgg_agg, List.all_cons, List.all_nil, cell1_int, cell1_str, cell1_slice, cell1_sl, Bool.and_self, ↓reduceIte, List.length_cons, List.length_nil, Nat.reduceAdd, Nat.reduceLT, Nat.reduceEqDiff, Nat.zero_add, and_self, aLoad, aPart, aStore, aSetPart, aIndexAddr, aBin, aExtract, hget0, hget, hset0, hset, hlen, happ, List.getElem?_cons_zero, List.getElem?_cons_succ, List.set_cons_zero, List.set_cons_succ, Option.map_some, Option.bind_some, List.getElem?_toArray, List.map_cons, List.map_nil, List.cons_append, List.nil_append, pv_lss, pv_add, decide_true, Int.toNat_natCast, Int.natCast_nonneg, Int.ofNat_lt, Bool.false_eq_true, beq_true, ei23, ti30, zi30, ti36, zi36, t9, t10, t11, hlt, vs_length, vs_get Rl.av hlt, Rl.cells, Rl.isAgg, Ky.cells, Ky.isAgg, Option.getD, Option.isSome]) | (with_reducible refine codeW_seq_k (fun K hK => ?_)) | (with_reducible refine codeW_block ?_) | (with_reducible refine codeW_ret ?_) | (with_reducible refine codeW_label ?_) | (with_reducible refine codeW_scope ?_) | (with_reducible refine codeW_skip ?_) | (with_reducible refine codeW_exit ?_) | (with_reducible refine to_then_normal ?_) | (with_reducible refine to_then_ret ?_) | (with_reducible refine to_then_exit ?_) | (with_reducible refine to_block_normal ?_) | (with_reducible refine to_block_ret ?_) | (with_reducible refine to_block_hit ?_) | (with_reducible refine to_block_miss rfl ?_) | ((with_reducible refine hK _ ?_); clear hK) | (clear hK; (with_reducible refine hK _ ?_); clear hK) | (clear hK; clear hK; (with_reducible refine hK _ ?_); clear hK) | (clear hK; clear hK; clear hK; (with_reducible refine hK _ ?_); clear hK) | (refine codeW_cond rfl ?_; simp only [↓reduceIte, Bool.false_eq_true]) | (intro (b : Bool); cases b))
        refine Onward.mk (m' := p.rules.length - (j + 1)) (by omega) ?_
        rw [hI]
        refine ⟨j + 1, _, rfl, hlt, by rw [hsame]; exact t3, t9, t10, ?_, by rw [hsame]; rfl⟩
        simp only [upd, ↓reduceIte]
        rw [wrap_nat (by omega)]
      | some k =>
        rw [hk, keyAV] at c
        have ce := fun (id : Nat) (H : AH) (hid : H[id]? = some (.cells 30 3 [k.av])) => containsFuncKey_call (keysL (p.rules.take j)) (fun x => x.eqB k) (some (h.length + 1)) (by omega) (.fn (.func 25) [] [.ptr id 0 0]) H (fun x hx => FunW.fn (equalTo_call k x (k2 x hx) id H hid))
        have hml : (vs Ky.av (keysL (p.rules.take j))).length = (keysL (p.rules.take j)).length := vs_length _ _
        have b1 : (keysL (p.rules.take j)).length + 1 ≤ maxLen := by simp only [maxLen]; omega
        have b2 : ((keysL (p.rules.take j)).length + 1) * 48 ≤ 140737488355328 := by omega
        cases hany : ((keysL (p.rules.take j)).any fun x => x.eqB k) with
        | true =>
          rw [hany] at ce
          have hsame : keysL (p.rules.take (j + 1)) = keysL (p.rules.take j) := by rw [hks, addKey, hk]; exact if_pos hany
          repeat (first | ((first | (with_reducible refine codeW_seq_region (fun K E hK hE => ?_)) | (with_reducible refine codeW_region_k (fun K E hK hE => ?_)) | (with_reducible refine funW_pure c ?_) | (with_reducible refine callA_pure c ?_) | (with_reducible refine FunW.ret (FunW.call (ce _ _ (by simp only [hget, List.getElem?_cons_succ, List.getElem?_cons_zero]))) ?_)); simp -implicitDefEqProofs only [opsW_nil, opsW_cons, awanted, OpW, contW, aop, undef, AS.ev, put_some, put_none, ofV_int, upd_at, AV.cells1, cells_agg, isAgg_agg, List.all_cons, List.all_nil, cell1_int, cell1_str, cell1_slice, cell1_sl, Bool.and_self, Bool.not_true, ↓reduceIte, List.length_cons, List.length_nil, Nat.reduceAdd, Nat.reduceLT, Nat.reduceEqDiff, Nat.zero_add, and_self, aLoad, aPart, aStore, aSetPart, aIndexAddr, aBin, aExtract, hget0, hget, hset0, hset, hlen, happ, List.getElem?_cons_zero, List.getElem?_cons_succ, List.set_cons_zero, List.set_cons_succ, Option.map_some, Option.bind_some, List.getElem?_toArray, List.map_cons, List.map_nil, List.cons_append, List.nil_append, pv_lss, pv_add, pv_not, decide_true, beq_self_eq_true, Int.toNat_natCast, Int.natCast_nonneg, Int.ofNat_lt, ei23, ti30, zi30, ti36, zi36, t3, t9, t10, t11, hlt, vs_length, vs_get Rl.av hlt, Rl.cells, Rl.isAgg, Ky.cells, Ky.isAgg, Option.getD, Option.isSome]) | (with_reducible refine codeW_seq_k (fun K hK => ?_)) | (with_reducible refine codeW_block ?_) | (with_reducible refine codeW_ret ?_) | (with_reducible refine codeW_label ?_) | (with_reducible refine codeW_scope ?_) | (with_reducible refine codeW_skip ?_) | (with_reducible refine codeW_exit ?_) | (with_reducible refine to_then_normal ?_) | (with_reducible refine to_then_ret ?_) | (with_reducible refine to_then_exit ?_) | (with_reducible refine to_block_normal ?_) | (with_reducible refine to_block_ret ?_) | (with_reducible refine to_block_hit ?_) | (with_reducible refine to_block_miss rfl ?_) | ((with_reducible refine hK _ ?_); clear hK) | (clear hK; (with_reducible refine hK _ ?_); clear hK) | (clear hK; clear hK; (with_reducible refine hK _ ?_); clear hK) | (clear hK; clear hK; clear hK; (with_reducible refine hK _ ?_); clear hK) | (refine codeW_cond rfl ?_; simp only [↓reduceIte, Bool.false_eq_true]) | (intro (b : Bool); cases b))
          refine Onward.mk (m' := p.rules.length - (j + 1)) (by omega) ?_
          rw [hI]
          refine ⟨j + 1, _, rfl, hlt, by rw [hsame]; exact t3, t9, t10, ?_, by rw [hsame]; rfl⟩
          simp only [upd, ↓reduceIte]
          rw [wrap_nat (by omega)]
        | false =>
          rw [hany] at ce
          have hsame : keysL (p.rules.take (j + 1)) = keysL (p.rules.take j) ++ [k] := by rw [hks, addKey, hk]; exact if_neg (by rw [hany]; simp)
          repeat (first | ((first | (with_reducible refine codeW_seq_region (fun K E hK hE => ?_)) | (with_reducible refine codeW_region_k (fun K E hK hE => ?_)) | (with_reducible refine funW_pure c ?_) | (with_reducible refine callA_pure c ?_) | (with_reducible refine FunW.ret (FunW.call (ce _ _ (by simp only [hget, List.getElem?_cons_succ, List.getElem?_cons_zero]))) ?_)); simp -implicitDefEqProofs only [opsW_nil, opsW_cons, awanted, OpW, contW, aop, undef, AS.ev, put_some, put_none, ofV_int, upd_at, AV.cells1, cells_agg, isAgg_agg, List.all_cons, List.all_nil, cell1_int, cell1_str, cell1_slice, cell1_sl, Bool.and_self, Bool.not_false, ↓reduceIte, List.length_cons, List.length_nil, Nat.reduceAdd, Nat.reduceLT, Nat.reduceLeDiff, Nat.reduceEqDiff, Nat.reduceMul, Nat.zero_add, and_self, aLoad, aPart, aStore, aSetPart, aIndexAddr, aBin, aExtract, aBuildSlice, aAppend, srcOf, hget0, hget, hset0, hset, hlen, happ, List.getElem?_cons_zero, List.getElem?_cons_succ, List.set_cons_zero, List.set_cons_succ, Option.map_some, Option.bind_some, List.getElem?_toArray, List.map_cons, List.map_nil, List.cons_append, List.nil_append, pv_lss, pv_add, pv_not, decide_true, beq_self_eq_true, Int.toNat_natCast, Int.natCast_nonneg, Int.ofNat_lt, rng1, any_some', Nat.reducePow, ei23, ti30, zi30, ti36, zi36, ei38, ai38, t3, t9, t10, t11, hlt, vs_length, vs_get Rl.av hlt, Rl.cells, Rl.isAgg, Ky.cells, Ky.isAgg, Option.getD, Option.isSome, hml, b1, b2]) | (with_reducible refine codeW_seq_k (fun K hK => ?_)) | (with_reducible refine codeW_block ?_) | (with_reducible refine codeW_ret ?_) | (with_reducible refine codeW_label ?_) | (with_reducible refine codeW_scope ?_) | (with_reducible refine codeW_skip ?_) | (with_reducible refine codeW_exit ?_) | (with_reducible refine to_then_normal ?_) | (with_reducible refine to_then_ret ?_) | (with_reducible refine to_then_exit ?_) | (with_reducible refine to_block_normal ?_) | (with_reducible refine to_block_ret ?_) | (with_reducible refine to_block_hit ?_) | (with_reducible refine to_block_miss rfl ?_) | ((with_reducible refine hK _ ?_); clear hK) | (clear hK; (with_reducible refine hK _ ?_); clear hK) | (clear hK; clear hK; (with_reducible refine hK _ ?_); clear hK) | (clear hK; clear hK; clear hK; (with_reducible refine hK _ ?_); clear hK) | (refine codeW_cond rfl ?_; simp only [↓reduceIte]) | (intro (b : Bool); cases b))
          refine Onward.mk (m' := p.rules.length - (j + 1)) (by omega) ?_
          rw [hI]
          refine ⟨j + 1, _, rfl, hlt, ?_, t9, t10, ?_, by rw [hsame, List.length_append]; rfl⟩
          · rw [hsame, vs_append, vs_one]; rfl
          · simp only [upd, ↓reduceIte]
            rw [wrap_nat (by omega)]
    · have hjl : j = p.rules.length := by omega
      rw [hjl, List.take_length] at t3
      repeat (first | ((first | (with_reducible refine codeW_seq_region (fun K E hK hE => ?_)) | (with_reducible refine codeW_region_k (fun K E hK hE => ?_))); simp -implicitDefEqProofs only [opsW_nil, opsW_cons, awanted, OpW, aop, AS.ev, put_some, upd_at, ↓reduceIte, Nat.reduceLT, Nat.reduceEqDiff, aBin, Option.map_some, List.cons_append, List.nil_append, pv_lss, decide_false, Int.ofNat_lt, t3, t10, t11, hlt]) | (with_reducible refine codeW_seq_k (fun K hK => ?_)) | (with_reducible refine codeW_block ?_) | (with_reducible refine codeW_ret ?_) | (with_reducible refine codeW_label ?_) | (with_reducible refine codeW_scope ?_) | (with_reducible refine codeW_skip ?_) | (with_reducible refine codeW_exit ?_) | (with_reducible refine to_then_normal ?_) | (with_reducible refine to_then_ret ?_) | (with_reducible refine to_then_exit ?_) | (with_reducible refine to_block_normal ?_) | (with_reducible refine to_block_ret ?_) | (with_reducible refine to_block_hit ?_) | (with_reducible refine to_block_miss rfl ?_) | ((with_reducible refine hK _ ?_); clear hK) | (clear hK; (with_reducible refine hK _ ?_); clear hK) | (clear hK; clear hK; (with_reducible refine hK _ ?_); clear hK) | (clear hK; clear hK; clear hK; (with_reducible refine hK _ ?_); clear hK) | (refine codeW_cond rfl ?_; simp only [↓reduceIte, Bool.false_eq_true]) | (intro (b : Bool); cases b))
      simp only [BodyQ, aResults, aResult, upd, ↓reduceIte, Option.some.injEq, exists_eq_left']; first | refine leaves_end (htake _ _) (.tok (vs_flat _ _ (Ky.bel _) _)) ⟨rfl, rfl⟩ | refine leaves_end List.take_length (.tok (vs_flat _ _ (Ky.bel _) _)) ⟨rfl, rfl⟩
  · rw [hI]
    exact ⟨0, [], by omega, Nat.zero_le _, by simp [upd, keysL, vs], rfl, rfl, rfl, by simp [keysL]⟩
end Go.Proofs.Ytoccpldnegloaaa.Ab
