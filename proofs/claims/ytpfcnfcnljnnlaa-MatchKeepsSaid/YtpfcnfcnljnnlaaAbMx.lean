/-
  The variables of a term; ascending environments; what covers a term.
-/
import Derived.Test.YtpfcnfcnljnnlaaAbMw
import Derived.Test.YtpfcnfcnljnnlaaAbThree
set_option linter.unusedSimpArgs false
set_option linter.unusedVariables false
set_option maxHeartbeats 4000000
set_option maxRecDepth 4000
namespace Go.Proofs.Ytpfcnfcnljnnlaa.Ab
open Go.Proofs

mutual
theorem T.vars_length : ∀ (t : T), t.vars.length ≤ t.nds
  | .mk k i n l => by
    simp only [T.vars, T.nds]
    split
    · simp
    · split
      · have := varss_length l; omega
      · simp
theorem varss_length : ∀ (l : List T), (varss l).length ≤ ndsL l
  | [] => by simp [varss, ndsL]
  | t :: l => by
    have h1 := T.vars_length t
    have h2 := varss_length l
    simp only [varss, ndsL, List.length_append]; omega
end

theorem leaves_vis {σ : Type} {H : σ → AH} {m : Nat} (hm : ∀ s, (H s).length = m) (hH : ∀ s s' (i : Nat) b, (H s')[i]? = some b → (H s)[i]? = some b ∨ b.Below m) {s s2 : σ} {L own : AH} {r r' : AV} {Q : AV → AH → Prop}
    (hf : Frz (H s2 ++ (L ++ own)) (m + L.length) r r') (hq : Q r' (H s2 ++ L)) : Leaves (H s ++ L) (H s2 ++ (L ++ own)) r Q := by
  have ht : (H s2 ++ (L ++ own)).take (m + L.length) = H s2 ++ L := by
    rw [← List.append_assoc, ← hm s2, ← List.length_append, List.take_left]
  refine .inl ⟨m + L.length, r', by rw [List.length_append, hm]; exact Nat.le_refl _, by simp [hm], .inr fun i b hb => ?_, hf, by rw [ht]; exact hq⟩
  rw [ht] at hb
  rcases Nat.lt_or_ge i m with hi | hi
  · rw [List.getElem?_append_left (by rw [hm]; exact hi)] at hb
    rcases hH s s2 i b hb with h | h
    · exact .inl (by rw [List.getElem?_append_left (by rw [hm]; exact hi)]; exact h)
    · exact .inr (h.mono (by omega))
  · rw [List.getElem?_append_right (by rw [hm]; exact hi), hm] at hb
    exact .inl (by rw [List.getElem?_append_right (by rw [hm]; exact hi), hm]; exact hb)

theorem ndsL_uses_le (t : T) : ndsL t.uses ≤ ndsL t.args := by
  unfold T.uses
  split
  · exact Nat.le_refl _
  · simp [ndsL]
theorem has_pure (u : List Int) (own : Option Nat) (n : Int) (hb : u.length ≤ 1000000) : Pure Try.prog 60 [.sl 1 (ints u) own, .i n] (.b (decide (n ∈ u))) := by
  intro h
  refine callW_of_body Try.func60 rfl Try.call60 Try.ntmps60 (congrArg Array.toList Try.results60) (by simp) ?_
  repeat (first | ((first | (with_reducible refine codeW_seq_region (fun K E hK hE => ?_)) | (with_reducible refine codeW_region_k (fun K E hK hE => ?_))); simp -implicitDefEqProofs only [opsW_nil, opsW_cons, awanted, OpW, aop, AS.ev, put_some, ofV_int, ofV_bool, Nat.reduceLT]) | (with_reducible refine codeW_seq_k (fun K hK => ?_)) | (with_reducible refine codeW_block ?_) | (with_reducible refine codeW_ret ?_) | (with_reducible refine codeW_label ?_) | (with_reducible refine codeW_scope ?_) | (with_reducible refine codeW_skip ?_) | (with_reducible refine codeW_exit ?_) | (with_reducible refine to_then_normal ?_) | (with_reducible refine to_then_ret ?_) | (with_reducible refine to_then_exit ?_) | (with_reducible refine to_block_normal ?_) | (with_reducible refine to_block_ret ?_) | (with_reducible refine to_block_hit ?_) | (with_reducible refine to_block_miss rfl ?_) | ((with_reducible refine hK _ ?_); clear hK) | (clear hK; (with_reducible refine hK _ ?_); clear hK) | (clear hK; clear hK; (with_reducible refine hK _ ?_); clear hK) | (clear hK; clear hK; clear hK; (with_reducible refine hK _ ?_); clear hK) | (refine codeW_cond rfl ?_; simp only [↓reduceIte, Bool.false_eq_true]) | (intro (b : Bool); cases b))
  obtain ⟨I, hI⟩ : ∃ I : Nat → AS → Prop, I = fun m' s => ∃ j : Nat, m' = u.length - j ∧ j ≤ u.length ∧ (n ∈ u ↔ n ∈ u.drop j) ∧ s.tm 0 = .sl 1 (ints u) own ∧ s.tm 1 = .i n ∧ s.tm 5 = .i j ∧ s.h = h := ⟨_, rfl⟩; refine codeW_loop I ?_ (m := u.length) ?_
  · intro m' s hs; rw [hI] at hs; obtain ⟨tm, hp⟩ := s; dsimp only at hs; obtain ⟨j, rfl, hj, he, t0, t1, t5, rfl⟩ := hs
    by_cases hlt : j < u.length
    · rw [List.drop_eq_getElem_cons hlt, List.mem_cons] at he
      by_cases hz : u[j] = n
      · have hb1 : (u[j] == n) = true := by simpa using hz
        have hm : n ∈ u := he.2 (.inl hz.symm)
        repeat (first | ((first | (with_reducible refine codeW_seq_region (fun K E hK hE => ?_)) | (with_reducible refine codeW_region_k (fun K E hK hE => ?_))); simp -implicitDefEqProofs only [opsW_nil, opsW_cons, awanted, OpW, aop, AS.ev, put_some, ofV_bool, upd_at, cells_v, ↓reduceIte, Nat.reduceLT, Nat.reduceEqDiff, and_self, aLoad, aPart, aIndexAddr, aBin, aLen, List.getElem?_cons_zero, Option.map_some, pv_eql, pv_lss, goInt, decide_true, Int.toNat_natCast, Int.natCast_nonneg, Int.ofNat_lt, ints_length, ti3, ei68, un68, t0, t1, t5, hlt, ints_get hlt, hb1]) | (with_reducible refine codeW_seq_k (fun K hK => ?_)) | (with_reducible refine codeW_block ?_) | (with_reducible refine codeW_ret ?_) | (with_reducible refine codeW_label ?_) | (with_reducible refine codeW_scope ?_) | (with_reducible refine codeW_skip ?_) | (with_reducible refine codeW_exit ?_) | (with_reducible refine to_then_normal ?_) | (with_reducible refine to_then_ret ?_) | (with_reducible refine to_then_exit ?_) | (with_reducible refine to_block_normal ?_) | (with_reducible refine to_block_ret ?_) | (with_reducible refine to_block_hit ?_) | (with_reducible refine to_block_miss rfl ?_) | ((with_reducible refine hK _ ?_); clear hK) | (clear hK; (with_reducible refine hK _ ?_); clear hK) | (clear hK; clear hK; (with_reducible refine hK _ ?_); clear hK) | (clear hK; clear hK; clear hK; (with_reducible refine hK _ ?_); clear hK) | (refine codeW_cond rfl ?_; simp only [↓reduceIte]) | (intro (b : Bool); cases b))
        simp only [BodyQ, aResults, aResult, upd, ↓reduceIte, Option.some.injEq, exists_eq_left']
        exact leaves_end List.take_length (.keep (.v _)) ⟨by rw [decide_eq_true hm], rfl⟩
      · have hb1 : (u[j] == n) = false := by simpa using hz
        repeat (first | ((first | (with_reducible refine codeW_seq_region (fun K E hK hE => ?_)) | (with_reducible refine codeW_region_k (fun K E hK hE => ?_))); simp -implicitDefEqProofs only [opsW_nil, opsW_cons, awanted, OpW, aop, AS.ev, put_some, ofV_int, upd_at, cells_v, ↓reduceIte, Nat.reduceLT, Nat.reduceEqDiff, and_self, aLoad, aPart, aIndexAddr, aBin, aLen, List.getElem?_cons_zero, Option.map_some, pv_eql, pv_lss, pv_add, goInt, decide_true, Int.toNat_natCast, Int.natCast_nonneg, Int.ofNat_lt, ints_length, ti3, ei68, un68, t0, t1, t5, hlt, ints_get hlt, hb1]) | (with_reducible refine codeW_seq_k (fun K hK => ?_)) | (with_reducible refine codeW_block ?_) | (with_reducible refine codeW_ret ?_) | (with_reducible refine codeW_label ?_) | (with_reducible refine codeW_scope ?_) | (with_reducible refine codeW_skip ?_) | (with_reducible refine codeW_exit ?_) | (with_reducible refine to_then_normal ?_) | (with_reducible refine to_then_ret ?_) | (with_reducible refine to_then_exit ?_) | (with_reducible refine to_block_normal ?_) | (with_reducible refine to_block_ret ?_) | (with_reducible refine to_block_hit ?_) | (with_reducible refine to_block_miss rfl ?_) | ((with_reducible refine hK _ ?_); clear hK) | (clear hK; (with_reducible refine hK _ ?_); clear hK) | (clear hK; clear hK; (with_reducible refine hK _ ?_); clear hK) | (clear hK; clear hK; clear hK; (with_reducible refine hK _ ?_); clear hK) | (refine codeW_cond rfl ?_; simp only [↓reduceIte, Bool.false_eq_true]) | (intro (b : Bool); cases b))
        refine Onward.mk (m' := u.length - (j + 1)) (by omega) ?_
        rw [hI]
        refine ⟨j + 1, rfl, hlt, he.trans ⟨fun h => h.elim (fun e => absurd e.symm hz) id, .inr⟩, t0, t1, ?_, rfl⟩
        simp only [upd, ↓reduceIte]
        rw [wrap_nat (by omega)]
    · have hjl : j = u.length := by omega
      rw [hjl, List.drop_length] at he
      have hm : ¬ n ∈ u := fun h => by simpa using he.1 h
      repeat (first | ((first | (with_reducible refine codeW_seq_region (fun K E hK hE => ?_)) | (with_reducible refine codeW_region_k (fun K E hK hE => ?_))); simp -implicitDefEqProofs only [opsW_nil, opsW_cons, awanted, OpW, aop, AS.ev, put_some, ofV_bool, upd_at, ↓reduceIte, Nat.reduceLT, Nat.reduceEqDiff, aBin, aLen, Option.map_some, pv_lss, goInt, decide_false, Int.ofNat_lt, ints_length, un68, t0, t5, hlt]) | (with_reducible refine codeW_seq_k (fun K hK => ?_)) | (with_reducible refine codeW_block ?_) | (with_reducible refine codeW_ret ?_) | (with_reducible refine codeW_label ?_) | (with_reducible refine codeW_scope ?_) | (with_reducible refine codeW_skip ?_) | (with_reducible refine codeW_exit ?_) | (with_reducible refine to_then_normal ?_) | (with_reducible refine to_then_ret ?_) | (with_reducible refine to_then_exit ?_) | (with_reducible refine to_block_normal ?_) | (with_reducible refine to_block_ret ?_) | (with_reducible refine to_block_hit ?_) | (with_reducible refine to_block_miss rfl ?_) | ((with_reducible refine hK _ ?_); clear hK) | (clear hK; (with_reducible refine hK _ ?_); clear hK) | (clear hK; clear hK; (with_reducible refine hK _ ?_); clear hK) | (clear hK; clear hK; clear hK; (with_reducible refine hK _ ?_); clear hK) | (refine codeW_cond rfl ?_; simp only [↓reduceIte, Bool.false_eq_true]) | (intro (b : Bool); cases b))
      simp only [BodyQ, aResults, aResult, upd, ↓reduceIte, Option.some.injEq, exists_eq_left']
      exact leaves_end List.take_length (.keep (.v _)) ⟨by rw [decide_eq_false hm], rfl⟩
  · rw [hI]
    exact ⟨0, by omega, Nat.zero_le _, by simp, rfl, rfl, rfl, rfl⟩

theorem refArgs_pure (t : T) : Pure Try.prog 66 [t.av] (.sl 4 (avs t.uses) none) := by
  intro h
  refine callW_of_body Try.func66 rfl Try.call66 Try.ntmps66 (congrArg Array.toList Try.results66) (by simp) ?_
  by_cases hk : t.kind = 2
  · have hb : (t.kind == 2) = true := by simpa using hk
    repeat (first | ((first | (with_reducible refine codeW_seq_region (fun K E hK hE => ?_)) | (with_reducible refine codeW_region_k (fun K E hK hE => ?_))); simp -implicitDefEqProofs only [opsW_nil, opsW_cons, awanted, OpW, aop, undef, AS.ev, put_some, ofV_int, ofV_slice, upd_at, initTm, List.getD_cons_zero, AV.cells1, List.all_cons, List.all_nil, cell1_int, cell1_str, cell1_sl, Bool.and_self, ↓reduceIte, List.length_cons, List.length_nil, Nat.reduceAdd, Nat.reduceLT, Nat.reduceEqDiff, Nat.zero_add, Nat.add_zero, aFieldAddr, aLoad, aPart, aBin, hget0, List.getElem?_cons_zero, List.getElem?_cons_succ, Option.map_some, pv_eql, T.av_cells, ti3, ti23, fi25_0, fi25_3, hb]) | (with_reducible refine codeW_seq_k (fun K hK => ?_)) | (with_reducible refine codeW_block ?_) | (with_reducible refine codeW_ret ?_) | (with_reducible refine codeW_label ?_) | (with_reducible refine codeW_scope ?_) | (with_reducible refine codeW_skip ?_) | (with_reducible refine codeW_exit ?_) | (with_reducible refine to_then_normal ?_) | (with_reducible refine to_then_ret ?_) | (with_reducible refine to_then_exit ?_) | (with_reducible refine to_block_normal ?_) | (with_reducible refine to_block_ret ?_) | (with_reducible refine to_block_hit ?_) | (with_reducible refine to_block_miss rfl ?_) | ((with_reducible refine hK _ ?_); clear hK) | (clear hK; (with_reducible refine hK _ ?_); clear hK) | (clear hK; clear hK; (with_reducible refine hK _ ?_); clear hK) | (clear hK; clear hK; clear hK; (with_reducible refine hK _ ?_); clear hK) | (refine codeW_cond rfl ?_; simp only [↓reduceIte]) | (intro (b : Bool); cases b))
    simp only [BodyQ, aResults, aResult, upd, ↓reduceIte, Option.some.injEq, exists_eq_left']
    refine leaves_end (htake _ _) (.keep (avs_below _ _)) ⟨by rw [T.uses, if_pos hk], rfl⟩
  · have hb : (t.kind == 2) = false := by simpa using hk
    repeat (first | ((first | (with_reducible refine codeW_seq_region (fun K E hK hE => ?_)) | (with_reducible refine codeW_region_k (fun K E hK hE => ?_))); simp -implicitDefEqProofs only [opsW_nil, opsW_cons, awanted, OpW, aop, undef, AS.ev, put_some, ofV_int, ofV_slice, upd_at, initTm, List.getD_cons_zero, AV.cells1, List.all_cons, List.all_nil, cell1_int, cell1_str, cell1_sl, Bool.and_self, ↓reduceIte, List.length_cons, List.length_nil, Nat.reduceAdd, Nat.reduceLT, Nat.reduceEqDiff, Nat.zero_add, Nat.add_zero, aFieldAddr, aLoad, aPart, aBin, hget0, List.getElem?_cons_zero, Option.map_some, pv_eql, T.av_cells, ti3, fi25_0, hb]) | (with_reducible refine codeW_seq_k (fun K hK => ?_)) | (with_reducible refine codeW_block ?_) | (with_reducible refine codeW_ret ?_) | (with_reducible refine codeW_label ?_) | (with_reducible refine codeW_scope ?_) | (with_reducible refine codeW_skip ?_) | (with_reducible refine codeW_exit ?_) | (with_reducible refine to_then_normal ?_) | (with_reducible refine to_then_ret ?_) | (with_reducible refine to_then_exit ?_) | (with_reducible refine to_block_normal ?_) | (with_reducible refine to_block_ret ?_) | (with_reducible refine to_block_hit ?_) | (with_reducible refine to_block_miss rfl ?_) | ((with_reducible refine hK _ ?_); clear hK) | (clear hK; (with_reducible refine hK _ ?_); clear hK) | (clear hK; clear hK; (with_reducible refine hK _ ?_); clear hK) | (clear hK; clear hK; clear hK; (with_reducible refine hK _ ?_); clear hK) | (refine codeW_cond rfl ?_; simp only [↓reduceIte, Bool.false_eq_true]) | (intro (b : Bool); cases b))
    simp only [BodyQ, aResults, aResult, upd, ↓reduceIte, Option.some.injEq, exists_eq_left']
    refine leaves_end (htake _ _) (.nil 4) ⟨by rw [T.uses, if_neg hk]; rfl, rfl⟩

/-! a token whose block grows -/
structure TokOk (H : Nat → AH) (m k e s : Nat) : Prop where
  len : ∀ n, (H n).length = m
  lt : k < m
  get : ∀ n, (H n)[k]? = some (.grow e s n)
  set : ∀ n n', (H n).set k (.grow e s n') = H n'

theorem TokOk.old {H : Nat → AH} {m k e s : Nat} (V : TokOk H m k e s) : ∀ n n' (i : Nat) b, (H n')[i]? = some b → (H n)[i]? = some b ∨ b.Below m := by
  intro n n' i b hb
  rw [← V.set n n'] at hb
  by_cases hi : k = i
  · subst hi
    rw [List.getElem?_set_self (by rw [V.len]; exact V.lt)] at hb
    cases hb
    exact .inr trivial
  · rw [List.getElem?_set_ne hi] at hb
    exact .inl hb

theorem T.vars_eq (t : T) : t.vars = if t.kind = 1 then [t.int] else varss t.uses := by
  cases t with | mk k i n l =>
  show T.vars (.mk k i n l) = if k = 1 then [i] else varss (if k = 2 then l else [])
  simp only [T.vars]
  by_cases h1 : k = 1
  · rw [if_pos h1, if_pos h1]
  · rw [if_neg h1, if_neg h1]
    by_cases h2 : k = 2
    · rw [if_pos h2, if_pos h2]
    · rw [if_neg h2, if_neg h2]; rfl

theorem refVars_all {H : Nat → AH} {m k : Nat} (V : TokOk H m k 3 1) : ∀ n, n ≤ 1000000 → ∀ (t : T) (u : List Int) (L : AH), t.nds ≤ n → u.length + t.nds ≤ 1000000 →
    CallW Try.prog 55 [.sl 1 (ints u) (some k), t.av] (H u.length ++ L) fun o h' => o = .ret (.sl 1 (ints (ded u t.vars)) (some k)) ∧ h' = H (ded u t.vars).length ++ L
  | 0, _, t, _, _, hn, _ => by have := T.nds_eq t; omega
  | n + 1, hb, t, u, L, hn, hu => by
    have e := T.vars_eq t
    have hnd := T.nds_eq t
    have hm := V.len
    have gk : ∀ (n : Nat) (L : AH) (k : Nat), (H n ++ L)[m + k]? = L[k]? := fun u L k => by rw [← hm u]; exact hget _ _ _
    have sk : ∀ (n : Nat) (L : AH) (k : Nat) (b : AB), (H n ++ L).set (m + k) b = H n ++ L.set k b := fun u L k b => by rw [← hm u]; exact hset _ _ _ _
    have gt : ∀ (n : Nat) (L : AH), (H n ++ L)[k]? = some (.grow 3 1 n) := fun n L => by rw [List.getElem?_append_left (by rw [hm]; exact V.lt)]; exact V.get n
    have st : ∀ (n n' : Nat) (L : AH), (H n ++ L).set k (.grow 3 1 n') = H n' ++ L := fun n n' L => by rw [List.set_append_left _ _ (by rw [hm]; exact V.lt), V.set]
    have ca := refArgs_pure t
    have ch := has_pure u (some k) t.int (by omega)
    have hlu := length_le_nds t.uses
    have hul := ndsL_uses_le t
    by_cases h1 : t.kind = 1
    · have b1 : (t.kind == 1) = true := by simpa using h1
      have hus : t.uses = [] := by unfold T.uses; rw [if_neg (by omega)]
      rw [if_pos h1] at e
      by_cases hmem : t.int ∈ u
      · have hed : ded u t.vars = ded u (varss (t.uses.drop 0)) := by rw [e, hus]; exact if_pos hmem
        have hlen' : u.length + ndsL (t.uses.drop 0) ≤ 1000000 := by rw [List.drop_zero]; omega
        rw [decide_eq_true hmem] at ch
        refine callW_of_body Try.func55 rfl Try.call55 Try.ntmps55 (congrArg Array.toList Try.results55) (by simp) ?_
        repeat (first | ((first | (with_reducible refine codeW_seq_region (fun K E hK hE => ?_)) | (with_reducible refine codeW_region_k (fun K E hK hE => ?_)) | (with_reducible refine funW_pure ca ?_) | (with_reducible refine callA_pure ca ?_) | (with_reducible refine funW_pure ch ?_) | (with_reducible refine callA_pure ch ?_)); simp -implicitDefEqProofs only [opsW_nil, opsW_cons, awanted, OpW, contW, aop, undef, AS.ev, put_some, ofV_int, ofV_slice, upd_at, initTm, List.getD_cons_zero, List.getD_cons_succ, AV.cells1, List.all_cons, List.all_nil, cell1_int, cell1_str, cell1_sl, Bool.and_self, Bool.not_true, ↓reduceIte, List.length_cons, List.length_nil, Nat.reduceAdd, Nat.reduceLT, Nat.reduceEqDiff, Nat.zero_add, Nat.add_zero, and_self, aFieldAddr, aLoad, aPart, aBin, hget0, hlen, happ, List.getElem?_cons_zero, List.getElem?_cons_succ, Option.map_some, Option.bind_some, List.getElem?_toArray, List.map_cons, List.map_nil, pv_eql, pv_not, beq_self_eq_true, T.av_cells, T.av_isAgg, ti3, ti25, fi25_0, fi25_1, b1, hm, gk]) | (with_reducible refine codeW_seq_k (fun K hK => ?_)) | (with_reducible refine codeW_block ?_) | (with_reducible refine codeW_ret ?_) | (with_reducible refine codeW_label ?_) | (with_reducible refine codeW_scope ?_) | (with_reducible refine codeW_skip ?_) | (with_reducible refine codeW_exit ?_) | (with_reducible refine to_then_normal ?_) | (with_reducible refine to_then_ret ?_) | (with_reducible refine to_then_exit ?_) | (with_reducible refine to_block_normal ?_) | (with_reducible refine to_block_ret ?_) | (with_reducible refine to_block_hit ?_) | (with_reducible refine to_block_miss rfl ?_) | ((with_reducible refine hK _ ?_); clear hK) | (clear hK; (with_reducible refine hK _ ?_); clear hK) | (clear hK; clear hK; (with_reducible refine hK _ ?_); clear hK) | (clear hK; clear hK; clear hK; (with_reducible refine hK _ ?_); clear hK) | (refine codeW_cond rfl ?_; simp only [↓reduceIte, Bool.false_eq_true]) | (intro (b : Bool); cases b))
        obtain ⟨I, hI⟩ : ∃ I : Nat → AS → Prop, I = fun m' s => ∃ (j : Nat) (v : List Int) (M : AH), m' = t.uses.length - j ∧ j ≤ t.uses.length ∧ ded u t.vars = ded v (varss (t.uses.drop j)) ∧ v.length + ndsL (t.uses.drop j) ≤ 1000000 ∧ s.tm 0 = .sl 1 (ints v) (some k) ∧ s.tm 5 = .sl 4 (avs t.uses) none ∧ s.tm 6 = .i j ∧ s.h = H v.length ++ (L ++ M) := ⟨_, rfl⟩; refine codeW_loop I ?_ (m := t.uses.length) ?_
        · intro m' s hs; rw [hI] at hs; obtain ⟨tm, hp⟩ := s; dsimp only at hs; obtain ⟨j, v, M, rfl, hj, hw, hv, t0, t5, t6, rfl⟩ := hs
          by_cases hlt : j < t.uses.length
          · rw [List.drop_eq_getElem_cons hlt] at hw hv
            simp only [varss, ded_append] at hw
            simp only [ndsL] at hv
            have hcc := fun L => refVars_all V n (by omega) t.uses[j] v L (Nat.le_trans (ndsL_get hlt) (by omega)) (by omega)
            have hdl := ded_length v (t.uses[j]).vars
            have hvl := T.vars_length t.uses[j]
            repeat (first | ((first | (with_reducible refine codeW_seq_region (fun K E hK hE => ?_)) | (with_reducible refine codeW_region_k (fun K E hK hE => ?_)) | (with_reducible refine FunW.ret (FunW.call (hcc _)) ?_)); simp -implicitDefEqProofs only [opsW_nil, opsW_cons, awanted, OpW, contW, aop, AS.ev, put_some, ofV_int, upd_at, ↓reduceIte, List.length_cons, List.length_nil, Nat.reduceAdd, Nat.reduceLT, Nat.reduceEqDiff, Nat.zero_add, and_self, aLoad, aPart, aIndexAddr, aBin, aLen, Option.map_some, List.map_cons, List.map_nil, pv_lss, pv_add, goInt, decide_true, Int.toNat_natCast, Int.natCast_nonneg, Int.ofNat_lt, T.av_cells, T.av_isAgg, avs_length, ei23, un23, ti25, t0, t5, t6, hlt, avs_get hlt]) | (with_reducible refine codeW_seq_k (fun K hK => ?_)) | (with_reducible refine codeW_block ?_) | (with_reducible refine codeW_ret ?_) | (with_reducible refine codeW_label ?_) | (with_reducible refine codeW_scope ?_) | (with_reducible refine codeW_skip ?_) | (with_reducible refine codeW_exit ?_) | (with_reducible refine to_then_normal ?_) | (with_reducible refine to_then_ret ?_) | (with_reducible refine to_then_exit ?_) | (with_reducible refine to_block_normal ?_) | (with_reducible refine to_block_ret ?_) | (with_reducible refine to_block_hit ?_) | (with_reducible refine to_block_miss rfl ?_) | ((with_reducible refine hK _ ?_); clear hK) | (clear hK; (with_reducible refine hK _ ?_); clear hK) | (clear hK; clear hK; (with_reducible refine hK _ ?_); clear hK) | (clear hK; clear hK; clear hK; (with_reducible refine hK _ ?_); clear hK) | (refine codeW_cond rfl ?_; simp only [↓reduceIte]) | (intro (b : Bool); cases b))
            refine Onward.mk (m' := t.uses.length - (j + 1)) (by omega) ?_
            rw [hI]
            refine ⟨j + 1, _, _, rfl, hlt, hw, by omega, rfl, t5, ?_, rfl⟩
            simp only [upd, ↓reduceIte]
            rw [wrap_nat (by omega)]
          · have hjl : j = t.uses.length := by omega
            rw [hjl, List.drop_length] at hw
            simp only [varss, ded] at hw
            repeat (first | ((first | (with_reducible refine codeW_seq_region (fun K E hK hE => ?_)) | (with_reducible refine codeW_region_k (fun K E hK hE => ?_))); simp -implicitDefEqProofs only [opsW_nil, opsW_cons, awanted, OpW, aop, AS.ev, put_some, upd_at, ↓reduceIte, Nat.reduceLT, Nat.reduceEqDiff, aBin, aLen, Option.map_some, pv_lss, goInt, decide_false, Int.ofNat_lt, avs_length, un23, t0, t5, t6, hlt]) | (with_reducible refine codeW_seq_k (fun K hK => ?_)) | (with_reducible refine codeW_block ?_) | (with_reducible refine codeW_ret ?_) | (with_reducible refine codeW_label ?_) | (with_reducible refine codeW_scope ?_) | (with_reducible refine codeW_skip ?_) | (with_reducible refine codeW_exit ?_) | (with_reducible refine to_then_normal ?_) | (with_reducible refine to_then_ret ?_) | (with_reducible refine to_then_exit ?_) | (with_reducible refine to_block_normal ?_) | (with_reducible refine to_block_ret ?_) | (with_reducible refine to_block_hit ?_) | (with_reducible refine to_block_miss rfl ?_) | ((with_reducible refine hK _ ?_); clear hK) | (clear hK; (with_reducible refine hK _ ?_); clear hK) | (clear hK; clear hK; (with_reducible refine hK _ ?_); clear hK) | (clear hK; clear hK; clear hK; (with_reducible refine hK _ ?_); clear hK) | (refine codeW_cond rfl ?_; simp only [↓reduceIte, Bool.false_eq_true]) | (intro (b : Bool); cases b))
            simp only [BodyQ, aResults, aResult, upd, ↓reduceIte, Option.some.injEq, exists_eq_left']
            exact leaves_vis V.len V.old (.keep (.sl 1 _ _ (ints_flat _ _) (fun b hb => by cases hb; have := V.lt; omega))) ⟨by rw [hw], by rw [hw]⟩
        · rw [hI]
          exact ⟨0, _, _, by omega, Nat.zero_le _, hed, hlen', rfl, rfl, rfl, rfl⟩
      · have hed : ded u t.vars = ded (u ++ [t.int]) (varss (t.uses.drop 0)) := by rw [e, hus]; exact if_neg hmem
        have hlen' : (u ++ [t.int]).length + ndsL (t.uses.drop 0) ≤ 1000000 := by rw [hus, List.length_append]; simp only [List.drop_nil, ndsL, List.length_singleton]; omega
        rw [decide_eq_false hmem] at ch
        have hb1 : u.length + 1 ≤ maxLen := by simp only [maxLen]; omega
        have hb2 : (u.length + 1) * 8 ≤ 140737488355328 := by omega
        refine callW_of_body Try.func55 rfl Try.call55 Try.ntmps55 (congrArg Array.toList Try.results55) (by simp) ?_
        repeat (first | ((first | (with_reducible refine codeW_seq_region (fun K E hK hE => ?_)) | (with_reducible refine codeW_region_k (fun K E hK hE => ?_)) | (with_reducible refine funW_pure ca ?_) | (with_reducible refine callA_pure ca ?_) | (with_reducible refine funW_pure ch ?_) | (with_reducible refine callA_pure ch ?_)); simp -implicitDefEqProofs only [opsW_nil, opsW_cons, awanted, OpW, contW, aop, undef, AS.ev, put_some, ofV_int, ofV_slice, upd_at, initTm, List.getD_cons_zero, List.getD_cons_succ, AV.cells1, cells_v, List.all_cons, List.all_nil, cell1_int, cell1_str, cell1_sl, Bool.and_self, Bool.not_false, ↓reduceIte, List.length_cons, List.length_nil, Nat.reduceAdd, Nat.reduceLT, Nat.reduceLeDiff, Nat.reduceEqDiff, Nat.reduceMul, Nat.zero_add, Nat.add_zero, and_self, aFieldAddr, aLoad, aPart, aBin, aBuildSlice, aAppend, srcOf, hget0, hlen, happ, List.getElem?_cons_zero, List.getElem?_cons_succ, Option.map_some, Option.bind_some, List.getElem?_toArray, List.map_cons, List.map_nil, pv_eql, pv_not, beq_self_eq_true, rng1, any_some', Nat.reducePow, T.av_cells, T.av_isAgg, ints_length, ti3, zi3, ti25, fi25_0, fi25_1, ei68, ai68, b1, hm, gk, gt, st, hb1, hb2]) | (with_reducible refine codeW_seq_k (fun K hK => ?_)) | (with_reducible refine codeW_block ?_) | (with_reducible refine codeW_ret ?_) | (with_reducible refine codeW_label ?_) | (with_reducible refine codeW_scope ?_) | (with_reducible refine codeW_skip ?_) | (with_reducible refine codeW_exit ?_) | (with_reducible refine to_then_normal ?_) | (with_reducible refine to_then_ret ?_) | (with_reducible refine to_then_exit ?_) | (with_reducible refine to_block_normal ?_) | (with_reducible refine to_block_ret ?_) | (with_reducible refine to_block_hit ?_) | (with_reducible refine to_block_miss rfl ?_) | ((with_reducible refine hK _ ?_); clear hK) | (clear hK; (with_reducible refine hK _ ?_); clear hK) | (clear hK; clear hK; (with_reducible refine hK _ ?_); clear hK) | (clear hK; clear hK; clear hK; (with_reducible refine hK _ ?_); clear hK) | (refine codeW_cond rfl ?_; simp only [↓reduceIte]) | (intro (b : Bool); cases b))
        obtain ⟨I, hI⟩ : ∃ I : Nat → AS → Prop, I = fun m' s => ∃ (j : Nat) (v : List Int) (M : AH), m' = t.uses.length - j ∧ j ≤ t.uses.length ∧ ded u t.vars = ded v (varss (t.uses.drop j)) ∧ v.length + ndsL (t.uses.drop j) ≤ 1000000 ∧ s.tm 0 = .sl 1 (ints v) (some k) ∧ s.tm 5 = .sl 4 (avs t.uses) none ∧ s.tm 6 = .i j ∧ s.h = H v.length ++ (L ++ M) := ⟨_, rfl⟩; refine codeW_loop I ?_ (m := t.uses.length) ?_
        · intro m' s hs; rw [hI] at hs; obtain ⟨tm, hp⟩ := s; dsimp only at hs; obtain ⟨j, v, M, rfl, hj, hw, hv, t0, t5, t6, rfl⟩ := hs
          by_cases hlt : j < t.uses.length
          · rw [List.drop_eq_getElem_cons hlt] at hw hv
            simp only [varss, ded_append] at hw
            simp only [ndsL] at hv
            have hcc := fun L => refVars_all V n (by omega) t.uses[j] v L (Nat.le_trans (ndsL_get hlt) (by omega)) (by omega)
            have hdl := ded_length v (t.uses[j]).vars
            have hvl := T.vars_length t.uses[j]
            repeat (first | ((first | (with_reducible refine codeW_seq_region (fun K E hK hE => ?_)) | (with_reducible refine codeW_region_k (fun K E hK hE => ?_)) | (with_reducible refine FunW.ret (FunW.call (hcc _)) ?_)); simp -implicitDefEqProofs only [opsW_nil, opsW_cons, awanted, OpW, contW, aop, AS.ev, put_some, ofV_int, upd_at, ↓reduceIte, List.length_cons, List.length_nil, Nat.reduceAdd, Nat.reduceLT, Nat.reduceEqDiff, Nat.zero_add, and_self, aLoad, aPart, aIndexAddr, aBin, aLen, Option.map_some, List.map_cons, List.map_nil, pv_lss, pv_add, goInt, decide_true, Int.toNat_natCast, Int.natCast_nonneg, Int.ofNat_lt, T.av_cells, T.av_isAgg, avs_length, ei23, un23, ti25, t0, t5, t6, hlt, avs_get hlt]) | (with_reducible refine codeW_seq_k (fun K hK => ?_)) | (with_reducible refine codeW_block ?_) | (with_reducible refine codeW_ret ?_) | (with_reducible refine codeW_label ?_) | (with_reducible refine codeW_scope ?_) | (with_reducible refine codeW_skip ?_) | (with_reducible refine codeW_exit ?_) | (with_reducible refine to_then_normal ?_) | (with_reducible refine to_then_ret ?_) | (with_reducible refine to_then_exit ?_) | (with_reducible refine to_block_normal ?_) | (with_reducible refine to_block_ret ?_) | (with_reducible refine to_block_hit ?_) | (with_reducible refine to_block_miss rfl ?_) | ((with_reducible refine hK _ ?_); clear hK) | (clear hK; (with_reducible refine hK _ ?_); clear hK) | (clear hK; clear hK; (with_reducible refine hK _ ?_); clear hK) | (clear hK; clear hK; clear hK; (with_reducible refine hK _ ?_); clear hK) | (refine codeW_cond rfl ?_; simp only [↓reduceIte]) | (intro (b : Bool); cases b))
            refine Onward.mk (m' := t.uses.length - (j + 1)) (by omega) ?_
            rw [hI]
            refine ⟨j + 1, _, _, rfl, hlt, hw, by omega, rfl, t5, ?_, rfl⟩
            simp only [upd, ↓reduceIte]
            rw [wrap_nat (by omega)]
          · have hjl : j = t.uses.length := by omega
            rw [hjl, List.drop_length] at hw
            simp only [varss, ded] at hw
            repeat (first | ((first | (with_reducible refine codeW_seq_region (fun K E hK hE => ?_)) | (with_reducible refine codeW_region_k (fun K E hK hE => ?_))); simp -implicitDefEqProofs only [opsW_nil, opsW_cons, awanted, OpW, aop, AS.ev, put_some, upd_at, ↓reduceIte, Nat.reduceLT, Nat.reduceEqDiff, aBin, aLen, Option.map_some, pv_lss, goInt, decide_false, Int.ofNat_lt, avs_length, un23, t0, t5, t6, hlt]) | (with_reducible refine codeW_seq_k (fun K hK => ?_)) | (with_reducible refine codeW_block ?_) | (with_reducible refine codeW_ret ?_) | (with_reducible refine codeW_label ?_) | (with_reducible refine codeW_scope ?_) | (with_reducible refine codeW_skip ?_) | (with_reducible refine codeW_exit ?_) | (with_reducible refine to_then_normal ?_) | (with_reducible refine to_then_ret ?_) | (with_reducible refine to_then_exit ?_) | (with_reducible refine to_block_normal ?_) | (with_reducible refine to_block_ret ?_) | (with_reducible refine to_block_hit ?_) | (with_reducible refine to_block_miss rfl ?_) | ((with_reducible refine hK _ ?_); clear hK) | (clear hK; (with_reducible refine hK _ ?_); clear hK) | (clear hK; clear hK; (with_reducible refine hK _ ?_); clear hK) | (clear hK; clear hK; clear hK; (with_reducible refine hK _ ?_); clear hK) | (refine codeW_cond rfl ?_; simp only [↓reduceIte, Bool.false_eq_true]) | (intro (b : Bool); cases b))
            simp only [BodyQ, aResults, aResult, upd, ↓reduceIte, Option.some.injEq, exists_eq_left']
            exact leaves_vis V.len V.old (.keep (.sl 1 _ _ (ints_flat _ _) (fun b hb => by cases hb; have := V.lt; omega))) ⟨by rw [hw], by rw [hw]⟩
        · rw [hI]
          exact ⟨0, _, _, by omega, Nat.zero_le _, hed, hlen', by rw [ints_append, ints_one]; rfl, rfl, rfl, by rw [List.length_append]; rfl⟩
    · have b1 : (t.kind == 1) = false := by simpa using h1
      rw [if_neg h1] at e
      have hed : ded u t.vars = ded u (varss (t.uses.drop 0)) := by rw [e, List.drop_zero]
      have hlen' : u.length + ndsL (t.uses.drop 0) ≤ 1000000 := by rw [List.drop_zero]; omega
      refine callW_of_body Try.func55 rfl Try.call55 Try.ntmps55 (congrArg Array.toList Try.results55) (by simp) ?_
      repeat (first | ((first | (with_reducible refine codeW_seq_region (fun K E hK hE => ?_)) | (with_reducible refine codeW_region_k (fun K E hK hE => ?_)) | (with_reducible refine funW_pure ca ?_) | (with_reducible refine callA_pure ca ?_) | (with_reducible refine funW_pure ch ?_) | (with_reducible refine callA_pure ch ?_)); simp -implicitDefEqProofs only [opsW_nil, opsW_cons, awanted, OpW, contW, aop, undef, AS.ev, put_some, ofV_int, ofV_bool, ofV_slice, upd_at, initTm, List.getD_cons_zero, List.getD_cons_succ, AV.cells1, List.all_cons, List.all_nil, cell1_int, cell1_str, cell1_sl, Bool.and_self, ↓reduceIte, List.length_cons, List.length_nil, Nat.reduceAdd, Nat.reduceLT, Nat.reduceEqDiff, Nat.zero_add, Nat.add_zero, and_self, aFieldAddr, aLoad, aPart, aBin, hget0, hlen, happ, List.getElem?_cons_zero, List.getElem?_cons_succ, Option.map_some, Option.bind_some, List.getElem?_toArray, List.map_cons, List.map_nil, pv_eql, Bool.false_eq_true, beq_true, T.av_cells, T.av_isAgg, ti3, ti25, fi25_0, b1, hm, gk]) | (with_reducible refine codeW_seq_k (fun K hK => ?_)) | (with_reducible refine codeW_block ?_) | (with_reducible refine codeW_ret ?_) | (with_reducible refine codeW_label ?_) | (with_reducible refine codeW_scope ?_) | (with_reducible refine codeW_skip ?_) | (with_reducible refine codeW_exit ?_) | (with_reducible refine to_then_normal ?_) | (with_reducible refine to_then_ret ?_) | (with_reducible refine to_then_exit ?_) | (with_reducible refine to_block_normal ?_) | (with_reducible refine to_block_ret ?_) | (with_reducible refine to_block_hit ?_) | (with_reducible refine to_block_miss rfl ?_) | ((with_reducible refine hK _ ?_); clear hK) | (clear hK; (with_reducible refine hK _ ?_); clear hK) | (clear hK; clear hK; (with_reducible refine hK _ ?_); clear hK) | (clear hK; clear hK; clear hK; (with_reducible refine hK _ ?_); clear hK) | (refine codeW_cond rfl ?_; simp only [↓reduceIte, Bool.false_eq_true]) | (intro (b : Bool); cases b))
      obtain ⟨I, hI⟩ : ∃ I : Nat → AS → Prop, I = fun m' s => ∃ (j : Nat) (v : List Int) (M : AH), m' = t.uses.length - j ∧ j ≤ t.uses.length ∧ ded u t.vars = ded v (varss (t.uses.drop j)) ∧ v.length + ndsL (t.uses.drop j) ≤ 1000000 ∧ s.tm 0 = .sl 1 (ints v) (some k) ∧ s.tm 5 = .sl 4 (avs t.uses) none ∧ s.tm 6 = .i j ∧ s.h = H v.length ++ (L ++ M) := ⟨_, rfl⟩; refine codeW_loop I ?_ (m := t.uses.length) ?_
      · intro m' s hs; rw [hI] at hs; obtain ⟨tm, hp⟩ := s; dsimp only at hs; obtain ⟨j, v, M, rfl, hj, hw, hv, t0, t5, t6, rfl⟩ := hs
        by_cases hlt : j < t.uses.length
        · rw [List.drop_eq_getElem_cons hlt] at hw hv
          simp only [varss, ded_append] at hw
          simp only [ndsL] at hv
          have hcc := fun L => refVars_all V n (by omega) t.uses[j] v L (Nat.le_trans (ndsL_get hlt) (by omega)) (by omega)
          have hdl := ded_length v (t.uses[j]).vars
          have hvl := T.vars_length t.uses[j]
          repeat (first | ((first | (with_reducible refine codeW_seq_region (fun K E hK hE => ?_)) | (with_reducible refine codeW_region_k (fun K E hK hE => ?_)) | (with_reducible refine FunW.ret (FunW.call (hcc _)) ?_)); simp -implicitDefEqProofs only [opsW_nil, opsW_cons, awanted, OpW, contW, aop, AS.ev, put_some, ofV_int, upd_at, ↓reduceIte, List.length_cons, List.length_nil, Nat.reduceAdd, Nat.reduceLT, Nat.reduceEqDiff, Nat.zero_add, and_self, aLoad, aPart, aIndexAddr, aBin, aLen, Option.map_some, List.map_cons, List.map_nil, pv_lss, pv_add, goInt, decide_true, Int.toNat_natCast, Int.natCast_nonneg, Int.ofNat_lt, T.av_cells, T.av_isAgg, avs_length, ei23, un23, ti25, t0, t5, t6, hlt, avs_get hlt]) | (with_reducible refine codeW_seq_k (fun K hK => ?_)) | (with_reducible refine codeW_block ?_) | (with_reducible refine codeW_ret ?_) | (with_reducible refine codeW_label ?_) | (with_reducible refine codeW_scope ?_) | (with_reducible refine codeW_skip ?_) | (with_reducible refine codeW_exit ?_) | (with_reducible refine to_then_normal ?_) | (with_reducible refine to_then_ret ?_) | (with_reducible refine to_then_exit ?_) | (with_reducible refine to_block_normal ?_) | (with_reducible refine to_block_ret ?_) | (with_reducible refine to_block_hit ?_) | (with_reducible refine to_block_miss rfl ?_) | ((with_reducible refine hK _ ?_); clear hK) | (clear hK; (with_reducible refine hK _ ?_); clear hK) | (clear hK; clear hK; (with_reducible refine hK _ ?_); clear hK) | (clear hK; clear hK; clear hK; (with_reducible refine hK _ ?_); clear hK) | (refine codeW_cond rfl ?_; simp only [↓reduceIte]) | (intro (b : Bool); cases b))
          refine Onward.mk (m' := t.uses.length - (j + 1)) (by omega) ?_
          rw [hI]
          refine ⟨j + 1, _, _, rfl, hlt, hw, by omega, rfl, t5, ?_, rfl⟩
          simp only [upd, ↓reduceIte]
          rw [wrap_nat (by omega)]
        · have hjl : j = t.uses.length := by omega
          rw [hjl, List.drop_length] at hw
          simp only [varss, ded] at hw
          repeat (first | ((first | (with_reducible refine codeW_seq_region (fun K E hK hE => ?_)) | (with_reducible refine codeW_region_k (fun K E hK hE => ?_))); simp -implicitDefEqProofs only [opsW_nil, opsW_cons, awanted, OpW, aop, AS.ev, put_some, upd_at, ↓reduceIte, Nat.reduceLT, Nat.reduceEqDiff, aBin, aLen, Option.map_some, pv_lss, goInt, decide_false, Int.ofNat_lt, avs_length, un23, t0, t5, t6, hlt]) | (with_reducible refine codeW_seq_k (fun K hK => ?_)) | (with_reducible refine codeW_block ?_) | (with_reducible refine codeW_ret ?_) | (with_reducible refine codeW_label ?_) | (with_reducible refine codeW_scope ?_) | (with_reducible refine codeW_skip ?_) | (with_reducible refine codeW_exit ?_) | (with_reducible refine to_then_normal ?_) | (with_reducible refine to_then_ret ?_) | (with_reducible refine to_then_exit ?_) | (with_reducible refine to_block_normal ?_) | (with_reducible refine to_block_ret ?_) | (with_reducible refine to_block_hit ?_) | (with_reducible refine to_block_miss rfl ?_) | ((with_reducible refine hK _ ?_); clear hK) | (clear hK; (with_reducible refine hK _ ?_); clear hK) | (clear hK; clear hK; (with_reducible refine hK _ ?_); clear hK) | (clear hK; clear hK; clear hK; (with_reducible refine hK _ ?_); clear hK) | (refine codeW_cond rfl ?_; simp only [↓reduceIte, Bool.false_eq_true]) | (intro (b : Bool); cases b))
          simp only [BodyQ, aResults, aResult, upd, ↓reduceIte, Option.some.injEq, exists_eq_left']
          exact leaves_vis V.len V.old (.keep (.sl 1 _ _ (ints_flat _ _) (fun b hb => by cases hb; have := V.lt; omega))) ⟨by rw [hw], by rw [hw]⟩
      · rw [hI]
        exact ⟨0, _, _, by omega, Nat.zero_le _, hed, hlen', rfl, rfl, rfl, rfl⟩

theorem tokOk_new (h : AH) (e s : Nat) : TokOk (fun n => h ++ [.grow e s n]) (h.length + 1) h.length e s where
  len := fun n => by simp
  lt := by omega
  get := fun n => by rw [hget0]; rfl
  set := fun n n' => by rw [hset0]; rfl

theorem refVars1_pure (t : T) (hn : t.nds ≤ 1000000) : Pure Try.prog 40 [t.av] (.sl 1 (ints (ded [] t.vars)) none) := by
  intro h
  refine callW_of_body Try.func40 rfl Try.call40 Try.ntmps40 (congrArg Array.toList Try.results40) (by simp) ?_
  repeat (first | ((first | (with_reducible refine codeW_seq_region (fun K E hK hE => ?_)) | (with_reducible refine codeW_region_k (fun K E hK hE => ?_))); simp -implicitDefEqProofs only [opsW_nil, opsW_cons, awanted, OpW, aop, undef, AS.ev, put_some, ofV_slice, upd_at, initTm, List.getD_cons_zero, AV.cells1, List.all_cons, List.all_nil, cell1_int, cell1_str, cell1_sl, Bool.and_self, ↓reduceIte, List.length_cons, List.length_nil, Nat.reduceAdd, Nat.reduceLT, Nat.reduceEqDiff, Nat.zero_add, and_self, aLoad, aPart, hget0, List.getElem?_cons_zero, Option.map_some, List.map_cons, List.map_nil, T.av_cells, T.av_isAgg, ti25]) | (with_reducible refine codeW_seq_k (fun K hK => ?_)) | (with_reducible refine codeW_block ?_) | (with_reducible refine codeW_ret ?_) | (with_reducible refine codeW_label ?_) | (with_reducible refine codeW_scope ?_) | (with_reducible refine codeW_skip ?_) | (with_reducible refine codeW_exit ?_) | (with_reducible refine to_then_normal ?_) | (with_reducible refine to_then_ret ?_) | (with_reducible refine to_then_exit ?_) | (with_reducible refine to_block_normal ?_) | (with_reducible refine to_block_ret ?_) | (with_reducible refine to_block_hit ?_) | (with_reducible refine to_block_miss rfl ?_) | ((with_reducible refine hK _ ?_); clear hK) | (clear hK; (with_reducible refine hK _ ?_); clear hK) | (clear hK; clear hK; (with_reducible refine hK _ ?_); clear hK) | (clear hK; clear hK; clear hK; (with_reducible refine hK _ ?_); clear hK) | (refine codeW_cond rfl ?_; simp only [↓reduceIte, Bool.false_eq_true]) | (intro (b : Bool); cases b))
  refine funW_nilArg 3 1 ?_
  have hcc := refVars_all (tokOk_new (h ++ [.cells 25 4 [t.av]]) 3 1) 1000000 (Nat.le_refl _) t [] [] hn (by simpa using hn)
  simp only [List.append_assoc, List.cons_append, List.nil_append, List.append_nil, ints_nil, List.length_nil] at hcc
  simp -implicitDefEqProofs only [List.length_cons, List.length_nil, Nat.zero_add, hlen, happ, List.cons_append, List.nil_append]
  simp only [hlen, List.length_cons, List.length_nil] at hcc
  repeat (first | ((first | (with_reducible refine codeW_seq_region (fun K E hK hE => ?_)) | (with_reducible refine codeW_region_k (fun K E hK hE => ?_)) | (with_reducible refine FunW.ret (FunW.call hcc) ?_)); simp -implicitDefEqProofs only [opsW_nil, opsW_cons, awanted, OpW, contW, aop, AS.ev, put_some, upd_at, ↓reduceIte, Nat.reduceLT, Nat.zero_add]) | (with_reducible refine codeW_seq_k (fun K hK => ?_)) | (with_reducible refine codeW_block ?_) | (with_reducible refine codeW_ret ?_) | (with_reducible refine codeW_label ?_) | (with_reducible refine codeW_scope ?_) | (with_reducible refine codeW_skip ?_) | (with_reducible refine codeW_exit ?_) | (with_reducible refine to_then_normal ?_) | (with_reducible refine to_then_ret ?_) | (with_reducible refine to_then_exit ?_) | (with_reducible refine to_block_normal ?_) | (with_reducible refine to_block_ret ?_) | (with_reducible refine to_block_hit ?_) | (with_reducible refine to_block_miss rfl ?_) | ((with_reducible refine hK _ ?_); clear hK) | (clear hK; (with_reducible refine hK _ ?_); clear hK) | (clear hK; clear hK; (with_reducible refine hK _ ?_); clear hK) | (clear hK; clear hK; clear hK; (with_reducible refine hK _ ?_); clear hK) | (refine codeW_cond rfl ?_; simp only [↓reduceIte, Bool.false_eq_true]) | (intro (b : Bool); cases b))
  simp only [BodyQ, aResults, aResult, upd, ↓reduceIte, Option.some.injEq, exists_eq_left']; first | refine leaves_end (htake _ _) (.tok (ints_flat _ _)) ⟨rfl, rfl⟩ | refine leaves_end List.take_length (.tok (ints_flat _ _)) ⟨rfl, rfl⟩

theorem occurs_pure (v : Int) (t : T) (hn : t.nds ≤ 1000000) : Pure Try.prog 42 [.i v, t.av] (.b (decide (v ∈ ded [] t.vars))) := by
  intro h
  have c1 := refVars1_pure t hn
  have h1 := ded_length [] t.vars
  have h2 := T.vars_length t
  have c2 := has_pure (ded [] t.vars) none v (by simp only [List.length_nil] at h1; omega)
  refine callW_of_body Try.func42 rfl Try.call42 Try.ntmps42 (congrArg Array.toList Try.results42) (by simp) ?_
  repeat (first | ((first | (with_reducible refine codeW_seq_region (fun K E hK hE => ?_)) | (with_reducible refine codeW_region_k (fun K E hK hE => ?_)) | (with_reducible refine funW_pure c1 ?_) | (with_reducible refine callA_pure c1 ?_) | (with_reducible refine funW_pure c2 ?_) | (with_reducible refine callA_pure c2 ?_)); simp -implicitDefEqProofs only [opsW_nil, opsW_cons, awanted, OpW, contW, aop, undef, AS.ev, put_some, ofV_bool, upd_at, initTm, List.getD_cons_zero, List.getD_cons_succ, AV.cells1, List.all_cons, List.all_nil, cell1_int, cell1_str, cell1_sl, Bool.and_self, ↓reduceIte, List.length_cons, List.length_nil, Nat.reduceAdd, Nat.reduceLT, Nat.reduceEqDiff, Nat.zero_add, and_self, aLoad, aPart, hget0, List.getElem?_cons_zero, Option.map_some, List.map_cons, List.map_nil, T.av_cells, T.av_isAgg, ti25]) | (with_reducible refine codeW_seq_k (fun K hK => ?_)) | (with_reducible refine codeW_block ?_) | (with_reducible refine codeW_ret ?_) | (with_reducible refine codeW_label ?_) | (with_reducible refine codeW_scope ?_) | (with_reducible refine codeW_skip ?_) | (with_reducible refine codeW_exit ?_) | (with_reducible refine to_then_normal ?_) | (with_reducible refine to_then_ret ?_) | (with_reducible refine to_then_exit ?_) | (with_reducible refine to_block_normal ?_) | (with_reducible refine to_block_ret ?_) | (with_reducible refine to_block_hit ?_) | (with_reducible refine to_block_miss rfl ?_) | ((with_reducible refine hK _ ?_); clear hK) | (clear hK; (with_reducible refine hK _ ?_); clear hK) | (clear hK; clear hK; (with_reducible refine hK _ ?_); clear hK) | (clear hK; clear hK; clear hK; (with_reducible refine hK _ ?_); clear hK) | (refine codeW_cond rfl ?_; simp only [↓reduceIte, Bool.false_eq_true]) | (intro (b : Bool); cases b))
  simp only [BodyQ, aResults, aResult, upd, ↓reduceIte, Option.some.injEq, exists_eq_left']; first | refine leaves_end (htake _ _) (.keep (.v _)) ⟨rfl, rfl⟩ | refine leaves_end List.take_length (.keep (.v _)) ⟨rfl, rfl⟩
theorem ground_pure (t : T) (hn : t.nds ≤ 1000000) : Pure Try.prog 18 [t.av] (.b (((ded [] t.vars).length : Int) == 0)) := by
  intro h
  have c1 := refVars1_pure t hn
  refine callW_of_body Try.func18 rfl Try.call18 Try.ntmps18 (congrArg Array.toList Try.results18) (by simp) ?_
  repeat (first | ((first | (with_reducible refine codeW_seq_region (fun K E hK hE => ?_)) | (with_reducible refine codeW_region_k (fun K E hK hE => ?_)) | (with_reducible refine funW_pure c1 ?_) | (with_reducible refine callA_pure c1 ?_)); simp -implicitDefEqProofs only [opsW_nil, opsW_cons, awanted, OpW, contW, aop, undef, AS.ev, put_some, ofV_int, ofV_bool, upd_at, initTm, List.getD_cons_zero, AV.cells1, List.all_cons, List.all_nil, cell1_int, cell1_str, cell1_sl, Bool.and_self, ↓reduceIte, List.length_cons, List.length_nil, Nat.reduceAdd, Nat.reduceLT, Nat.reduceEqDiff, Nat.zero_add, and_self, aLoad, aPart, aBin, aLen, hget0, List.getElem?_cons_zero, Option.map_some, List.map_cons, List.map_nil, pv_eql, goInt, T.av_cells, T.av_isAgg, ints_length, ti25, un68]) | (with_reducible refine codeW_seq_k (fun K hK => ?_)) | (with_reducible refine codeW_block ?_) | (with_reducible refine codeW_ret ?_) | (with_reducible refine codeW_label ?_) | (with_reducible refine codeW_scope ?_) | (with_reducible refine codeW_skip ?_) | (with_reducible refine codeW_exit ?_) | (with_reducible refine to_then_normal ?_) | (with_reducible refine to_then_ret ?_) | (with_reducible refine to_then_exit ?_) | (with_reducible refine to_block_normal ?_) | (with_reducible refine to_block_ret ?_) | (with_reducible refine to_block_hit ?_) | (with_reducible refine to_block_miss rfl ?_) | ((with_reducible refine hK _ ?_); clear hK) | (clear hK; (with_reducible refine hK _ ?_); clear hK) | (clear hK; clear hK; (with_reducible refine hK _ ?_); clear hK) | (clear hK; clear hK; clear hK; (with_reducible refine hK _ ?_); clear hK) | (refine codeW_cond rfl ?_; simp only [↓reduceIte, Bool.false_eq_true]) | (intro (b : Bool); cases b))
  simp only [BodyQ, aResults, aResult, upd, ↓reduceIte, Option.some.injEq, exists_eq_left']; first | refine leaves_end (htake _ _) (.keep (.v _)) ⟨rfl, rfl⟩ | refine leaves_end List.take_length (.keep (.v _)) ⟨rfl, rfl⟩

theorem ascending_pure (env : Env) (hb : env.length ≤ 1000000) : Pure Try.prog 20 [.sl 5 (bavs env) none] (.b (ascB env)) := by
  intro h
  refine callW_of_body Try.func20 rfl Try.call20 Try.ntmps20 (congrArg Array.toList Try.results20) (by simp) ?_
  repeat (first | ((first | (with_reducible refine codeW_seq_region (fun K E hK hE => ?_)) | (with_reducible refine codeW_region_k (fun K E hK hE => ?_)) | (refine codeW_seq_any (id := 4) [(0, 0), (1, 0), (2, 0), (3, 0), (4, 0), (5, 0), (6, 0), (7, 0), (8, 0), (9, 0), (10, 0), (11, 0)] mixed (by kernel_rfl) (fun K hK => ?_)) | (refine codeW_region_any (id := 4) [(0, 0), (1, 0), (2, 0), (3, 0), (4, 0), (5, 0), (6, 0), (7, 0), (8, 0), (9, 0), (10, 0), (11, 0)] mixed (by kernel_rfl) (fun K hK => ?_))); simp -implicitDefEqProofs only [opsW_nil, opsW_cons, awanted, OpW, aop, AS.ev, put_some, ofV_int, ofV_bool, Nat.reduceLT]) | (with_reducible refine codeW_seq_k (fun K hK => ?_)) | (with_reducible refine codeW_block ?_) | (with_reducible refine codeW_ret ?_) | (with_reducible refine codeW_label ?_) | (with_reducible refine codeW_scope ?_) | (with_reducible refine codeW_skip ?_) | (with_reducible refine codeW_exit ?_) | (with_reducible refine to_then_normal ?_) | (with_reducible refine to_then_ret ?_) | (with_reducible refine to_then_exit ?_) | (with_reducible refine to_block_normal ?_) | (with_reducible refine to_block_ret ?_) | (with_reducible refine to_block_hit ?_) | (with_reducible refine to_block_miss rfl ?_) | ((with_reducible refine hK _ ?_); clear hK) | (clear hK; (with_reducible refine hK _ ?_); clear hK) | (clear hK; clear hK; (with_reducible refine hK _ ?_); clear hK) | (clear hK; clear hK; clear hK; (with_reducible refine hK _ ?_); clear hK) | (refine codeW_cond rfl ?_; simp only [↓reduceIte, Bool.false_eq_true]) | (intro (b : Bool); cases b))
  obtain ⟨I, hI⟩ : ∃ I : Nat → AS → Prop, I = fun m' s => ∃ j : Nat, m' = env.length - j ∧ (j + 1 ≤ env.length ∨ j = 0) ∧ ascB env = ascB (env.drop j) ∧ s.tm 0 = .sl 5 (bavs env) none ∧ s.tm 3 = .i ((j : Int) + 1) ∧ s.h = h := ⟨_, rfl⟩; refine codeW_loop I ?_ (m := env.length) ?_
  · intro m' s hs; rw [hI] at hs; obtain ⟨tm, hp⟩ := s; dsimp only at hs; obtain ⟨j, rfl, hj, he, t0, t3, rfl⟩ := hs
    by_cases hlt : j + 1 < env.length
    · have hlt' : (j : Int) + 1 < env.length := by omega
      have hlt0 : j < env.length := by omega
      have w1 : IntKind.i64.wrap ((j : Int) + 1 - 1) = j := by rw [IntKind.wrap_i64]; omega
      have n1 : ((j : Int) + 1).toNat = j + 1 := by omega
      have p1 : (0 : Int) ≤ (j : Int) + 1 := by omega
      have p2 : (0 : Int) ≤ (j : Int) := by omega
      rw [List.drop_eq_getElem_cons hlt0, List.drop_eq_getElem_cons hlt, ascB] at he
      rw [← List.drop_eq_getElem_cons hlt] at he
      by_cases hg : (env[j]).1 ≥ (env[j + 1]).1
      · rw [decide_eq_false (by omega), Bool.false_and] at he
        repeat (first | ((first | (with_reducible refine codeW_seq_region (fun K E hK hE => ?_)) | (with_reducible refine codeW_region_k (fun K E hK hE => ?_)) | (refine codeW_seq_any (id := 4) [(0, 0), (1, 0), (2, 0), (3, 0), (4, 0), (5, 0), (6, 0), (7, 0), (8, 0), (9, 0), (10, 0), (11, 0)] mixed (by kernel_rfl) (fun K hK => ?_)) | (refine codeW_region_any (id := 4) [(0, 0), (1, 0), (2, 0), (3, 0), (4, 0), (5, 0), (6, 0), (7, 0), (8, 0), (9, 0), (10, 0), (11, 0)] mixed (by kernel_rfl) (fun K hK => ?_))); simp -implicitDefEqProofs only [anyW_nil, anyW_cons, anyO_eq, opsW_nil, opsW_cons, awanted, OpW, aop, AS.ev, put_some, ofV_int, ofV_bool, upd_at, ↓reduceIte, Nat.reduceLT, Nat.reduceEqDiff, Nat.add_zero, and_self, aFieldAddr, aLoad, aPart, aIndexAddr, aBin, aLen, List.getElem?_cons_zero, List.getElem?_cons_succ, Option.map_some, List.getElem?_toArray, pv_lss, pv_geq, pv_sub, goInt, decide_true, Int.toNat_natCast, Int.ofNat_lt, ti3, ei22, un22, fi46_0, bav_cells, bavs_length, t0, t3, hlt', hlt0, w1, n1, p1, p2, bavs_get hlt0, bavs_get hlt, hg]) | (with_reducible refine codeW_seq_k (fun K hK => ?_)) | (with_reducible refine codeW_block ?_) | (with_reducible refine codeW_ret ?_) | (with_reducible refine codeW_label ?_) | (with_reducible refine codeW_scope ?_) | (with_reducible refine codeW_skip ?_) | (with_reducible refine codeW_exit ?_) | (with_reducible refine to_then_normal ?_) | (with_reducible refine to_then_ret ?_) | (with_reducible refine to_then_exit ?_) | (with_reducible refine to_block_normal ?_) | (with_reducible refine to_block_ret ?_) | (with_reducible refine to_block_hit ?_) | (with_reducible refine to_block_miss rfl ?_) | ((with_reducible refine hK _ ?_); clear hK) | (clear hK; (with_reducible refine hK _ ?_); clear hK) | (clear hK; clear hK; (with_reducible refine hK _ ?_); clear hK) | (clear hK; clear hK; clear hK; (with_reducible refine hK _ ?_); clear hK) | (refine codeW_cond rfl ?_; simp only [↓reduceIte]) | (intro (b : Bool); cases b))
        simp only [BodyQ, aResults, aResult, upd, ↓reduceIte, Option.some.injEq, exists_eq_left']
        exact leaves_end List.take_length (.keep (.v _)) ⟨by rw [he], rfl⟩
      · rw [decide_eq_true (by omega), Bool.true_and] at he
        repeat (first | ((first | (with_reducible refine codeW_seq_region (fun K E hK hE => ?_)) | (with_reducible refine codeW_region_k (fun K E hK hE => ?_)) | (refine codeW_seq_any (id := 4) [(0, 0), (1, 0), (2, 0), (3, 0), (4, 0), (5, 0), (6, 0), (7, 0), (8, 0), (9, 0), (10, 0), (11, 0)] mixed (by kernel_rfl) (fun K hK => ?_)) | (refine codeW_region_any (id := 4) [(0, 0), (1, 0), (2, 0), (3, 0), (4, 0), (5, 0), (6, 0), (7, 0), (8, 0), (9, 0), (10, 0), (11, 0)] mixed (by kernel_rfl) (fun K hK => ?_))); simp -implicitDefEqProofs only [anyW_nil, anyW_cons, anyO_eq, opsW_nil, opsW_cons, awanted, OpW, aop, AS.ev, put_some, ofV_int, upd_at, ↓reduceIte, Nat.reduceLT, Nat.reduceEqDiff, Nat.add_zero, and_self, aFieldAddr, aLoad, aPart, aIndexAddr, aBin, aLen, List.getElem?_cons_zero, List.getElem?_cons_succ, Option.map_some, List.getElem?_toArray, pv_lss, pv_geq, pv_add, pv_sub, goInt, decide_true, decide_false, Int.toNat_natCast, Int.ofNat_lt, ti3, ei22, un22, fi46_0, bav_cells, bavs_length, t0, t3, hlt', hlt0, w1, n1, p1, p2, bavs_get hlt0, bavs_get hlt, hg]) | (with_reducible refine codeW_seq_k (fun K hK => ?_)) | (with_reducible refine codeW_block ?_) | (with_reducible refine codeW_ret ?_) | (with_reducible refine codeW_label ?_) | (with_reducible refine codeW_scope ?_) | (with_reducible refine codeW_skip ?_) | (with_reducible refine codeW_exit ?_) | (with_reducible refine to_then_normal ?_) | (with_reducible refine to_then_ret ?_) | (with_reducible refine to_then_exit ?_) | (with_reducible refine to_block_normal ?_) | (with_reducible refine to_block_ret ?_) | (with_reducible refine to_block_hit ?_) | (with_reducible refine to_block_miss rfl ?_) | ((with_reducible refine hK _ ?_); clear hK) | (clear hK; (with_reducible refine hK _ ?_); clear hK) | (clear hK; clear hK; (with_reducible refine hK _ ?_); clear hK) | (clear hK; clear hK; clear hK; (with_reducible refine hK _ ?_); clear hK) | (refine codeW_cond rfl ?_; simp only [↓reduceIte, Bool.false_eq_true]) | (intro (b : Bool); cases b))
        refine Onward.mk (m' := env.length - (j + 1)) (by omega) ?_
        rw [hI]
        refine ⟨j + 1, rfl, .inl hlt, he, t0, ?_, rfl⟩
        have w2 : IntKind.i64.wrap ((j : Int) + 1 + 1) = ((j + 1 : Nat) : Int) + 1 := by rw [IntKind.wrap_i64]; omega
        simp only [upd, ↓reduceIte, w2]
    · have hlt' : ¬ (j : Int) + 1 < env.length := by omega
      have he2 : ascB env = true := by
        rw [he]
        rcases hd : env.drop j with _ | ⟨a, _ | ⟨b, l⟩⟩
        · rfl
        · rfl
        · have := congrArg List.length hd
          simp at this
          omega
      repeat (first | ((first | (with_reducible refine codeW_seq_region (fun K E hK hE => ?_)) | (with_reducible refine codeW_region_k (fun K E hK hE => ?_)) | (refine codeW_seq_any (id := 4) [(0, 0), (1, 0), (2, 0), (3, 0), (4, 0), (5, 0), (6, 0), (7, 0), (8, 0), (9, 0), (10, 0), (11, 0)] mixed (by kernel_rfl) (fun K hK => ?_)) | (refine codeW_region_any (id := 4) [(0, 0), (1, 0), (2, 0), (3, 0), (4, 0), (5, 0), (6, 0), (7, 0), (8, 0), (9, 0), (10, 0), (11, 0)] mixed (by kernel_rfl) (fun K hK => ?_))); simp -implicitDefEqProofs only [opsW_nil, opsW_cons, awanted, OpW, aop, AS.ev, put_some, ofV_bool, upd_at, ↓reduceIte, Nat.reduceLT, Nat.reduceEqDiff, aBin, aLen, Option.map_some, pv_lss, goInt, decide_false, un22, bavs_length, t0, t3, hlt']) | (with_reducible refine codeW_seq_k (fun K hK => ?_)) | (with_reducible refine codeW_block ?_) | (with_reducible refine codeW_ret ?_) | (with_reducible refine codeW_label ?_) | (with_reducible refine codeW_scope ?_) | (with_reducible refine codeW_skip ?_) | (with_reducible refine codeW_exit ?_) | (with_reducible refine to_then_normal ?_) | (with_reducible refine to_then_ret ?_) | (with_reducible refine to_then_exit ?_) | (with_reducible refine to_block_normal ?_) | (with_reducible refine to_block_ret ?_) | (with_reducible refine to_block_hit ?_) | (with_reducible refine to_block_miss rfl ?_) | ((with_reducible refine hK _ ?_); clear hK) | (clear hK; (with_reducible refine hK _ ?_); clear hK) | (clear hK; clear hK; (with_reducible refine hK _ ?_); clear hK) | (clear hK; clear hK; clear hK; (with_reducible refine hK _ ?_); clear hK) | (refine codeW_cond rfl ?_; simp only [↓reduceIte, Bool.false_eq_true]) | (intro (b : Bool); cases b))
      simp only [BodyQ, aResults, aResult, upd, ↓reduceIte, Option.some.injEq, exists_eq_left']
      exact leaves_end List.take_length (.keep (.v _)) ⟨by rw [he2], rfl⟩
  · rw [hI]
    exact ⟨0, by omega, .inr rfl, by rw [List.drop_zero], rfl, rfl, rfl⟩

theorem covers_pure (env : Env) (t : T) (hb : env.length ≤ 1000000) (hn : t.nds ≤ 1000000) : Pure Try.prog 21 [.sl 5 (bavs env) none, t.av] (.b (coversB env t)) := by
  intro h
  have c1 := refVars1_pure t hn
  by_cases hl : (ded [] t.vars).length = env.length
  · have d : (((ded [] t.vars).length : Int) != env.length) = false := by simp [hl]
    have e : coversB env t = env.all fun b => decide (b.1 ∈ ded [] t.vars) := by simp [coversB, hl]
    refine callW_of_body Try.func21 rfl Try.call21 Try.ntmps21 (congrArg Array.toList Try.results21) (by simp) ?_
    repeat (first | ((first | (with_reducible refine codeW_seq_region (fun K E hK hE => ?_)) | (with_reducible refine codeW_region_k (fun K E hK hE => ?_)) | (with_reducible refine funW_pure c1 ?_) | (with_reducible refine callA_pure c1 ?_) | (refine codeW_seq_any (id := 7) [(0, 0), (1, 0), (2, 0), (3, 0), (4, 0), (5, 0), (6, 1), (7, 0)] mixed (by kernel_rfl) (fun K hK => ?_)) | (refine codeW_region_any (id := 7) [(0, 0), (1, 0), (2, 0), (3, 0), (4, 0), (5, 0), (6, 1), (7, 0)] mixed (by kernel_rfl) (fun K hK => ?_))); simp -implicitDefEqProofs only [opsW_nil, opsW_cons, awanted, OpW, contW, aop, undef, AS.ev, put_some, ofV_int, ofV_bool, upd_at, initTm, List.getD_cons_zero, List.getD_cons_succ, AV.cells1, List.all_cons, List.all_nil, cell1_int, cell1_str, cell1_sl, Bool.and_self, ↓reduceIte, List.length_cons, List.length_nil, Nat.reduceAdd, Nat.reduceLT, Nat.reduceEqDiff, Nat.zero_add, and_self, aLoad, aPart, aBin, aLen, hget0, List.getElem?_cons_zero, Option.map_some, List.map_cons, List.map_nil, pv_neq, goInt, T.av_cells, T.av_isAgg, ints_length, un22, ti25, un68, bavs_length, d]) | (with_reducible refine codeW_seq_k (fun K hK => ?_)) | (with_reducible refine codeW_block ?_) | (with_reducible refine codeW_ret ?_) | (with_reducible refine codeW_label ?_) | (with_reducible refine codeW_scope ?_) | (with_reducible refine codeW_skip ?_) | (with_reducible refine codeW_exit ?_) | (with_reducible refine to_then_normal ?_) | (with_reducible refine to_then_ret ?_) | (with_reducible refine to_then_exit ?_) | (with_reducible refine to_block_normal ?_) | (with_reducible refine to_block_ret ?_) | (with_reducible refine to_block_hit ?_) | (with_reducible refine to_block_miss rfl ?_) | ((with_reducible refine hK _ ?_); clear hK) | (clear hK; (with_reducible refine hK _ ?_); clear hK) | (clear hK; clear hK; (with_reducible refine hK _ ?_); clear hK) | (clear hK; clear hK; clear hK; (with_reducible refine hK _ ?_); clear hK) | (refine codeW_cond rfl ?_; simp only [↓reduceIte, Bool.false_eq_true]) | (intro (b : Bool); cases b))
    obtain ⟨I, hI⟩ : ∃ I : Nat → AS → Prop, I = fun m' s => ∃ j : Nat, m' = env.length - j ∧ j ≤ env.length ∧ coversB env t = ((env.drop j).all fun b => decide (b.1 ∈ ded [] t.vars)) ∧ s.tm 0 = .sl 5 (bavs env) none ∧ s.tm 3 = .ptr h.length 0 0 ∧ s.tm 6 = .i j ∧ s.h = h ++ [.cells 25 4 [t.av]] := ⟨_, rfl⟩; refine codeW_loop I ?_ (m := env.length) ?_
    · intro m' s hs; rw [hI] at hs; obtain ⟨tm, hp⟩ := s; dsimp only at hs; obtain ⟨j, rfl, hj, he, t0, t3, t6, rfl⟩ := hs
      by_cases hlt : j < env.length
      · rw [List.drop_eq_getElem_cons hlt, List.all_cons] at he
        have c2 := occurs_pure (env[j]).1 t hn
        by_cases hm : (env[j]).1 ∈ ded [] t.vars
        · rw [decide_eq_true hm] at c2 he
          rw [Bool.true_and] at he
          repeat (first | ((first | (with_reducible refine codeW_seq_region (fun K E hK hE => ?_)) | (with_reducible refine codeW_region_k (fun K E hK hE => ?_)) | (with_reducible refine funW_pure c2 ?_) | (with_reducible refine callA_pure c2 ?_) | (refine codeW_seq_any (id := 7) [(0, 0), (1, 0), (2, 0), (3, 0), (4, 0), (5, 0), (6, 1), (7, 0)] mixed (by kernel_rfl) (fun K hK => ?_)) | (refine codeW_region_any (id := 7) [(0, 0), (1, 0), (2, 0), (3, 0), (4, 0), (5, 0), (6, 1), (7, 0)] mixed (by kernel_rfl) (fun K hK => ?_))); simp -implicitDefEqProofs only [anyW_nil, anyW_cons, anyO_eq, opsW_nil, opsW_cons, awanted, OpW, aop, AS.ev, put_some, ofV_int, upd_at, Bool.not_true, ↓reduceIte, List.length_cons, List.length_nil, Nat.reduceAdd, Nat.reduceLT, Nat.reduceLeDiff, Nat.reduceEqDiff, Nat.zero_add, Nat.add_zero, and_self, aFieldAddr, aLoad, aPart, aIndexAddr, aBin, aLen, hget0, List.getElem?_cons_zero, List.getElem?_cons_succ, Option.map_some, List.getElem?_toArray, List.map_cons, List.map_nil, pv_lss, pv_add, pv_not, goInt, decide_true, Int.toNat_natCast, Int.natCast_nonneg, Int.ofNat_lt, T.av_cells, T.av_isAgg, ti3, ei22, un22, ti25, fi46_0, bav_cells, bavs_length, t0, t3, t6, hlt, bavs_get hlt]) | (with_reducible refine codeW_seq_k (fun K hK => ?_)) | (with_reducible refine codeW_block ?_) | (with_reducible refine codeW_ret ?_) | (with_reducible refine codeW_label ?_) | (with_reducible refine codeW_scope ?_) | (with_reducible refine codeW_skip ?_) | (with_reducible refine codeW_exit ?_) | (with_reducible refine to_then_normal ?_) | (with_reducible refine to_then_ret ?_) | (with_reducible refine to_then_exit ?_) | (with_reducible refine to_block_normal ?_) | (with_reducible refine to_block_ret ?_) | (with_reducible refine to_block_hit ?_) | (with_reducible refine to_block_miss rfl ?_) | ((with_reducible refine hK _ ?_); clear hK) | (clear hK; (with_reducible refine hK _ ?_); clear hK) | (clear hK; clear hK; (with_reducible refine hK _ ?_); clear hK) | (clear hK; clear hK; clear hK; (with_reducible refine hK _ ?_); clear hK) | (refine codeW_cond rfl ?_; simp only [↓reduceIte, Bool.false_eq_true]) | (intro (b : Bool); cases b))
          refine Onward.mk (m' := env.length - (j + 1)) (by omega) ?_
          rw [hI]
          refine ⟨j + 1, rfl, hlt, he, t0, t3, ?_, rfl⟩
          simp only [upd, ↓reduceIte]
          rw [wrap_nat (by omega)]
        · rw [decide_eq_false hm] at c2 he
          rw [Bool.false_and] at he
          repeat (first | ((first | (with_reducible refine codeW_seq_region (fun K E hK hE => ?_)) | (with_reducible refine codeW_region_k (fun K E hK hE => ?_)) | (with_reducible refine funW_pure c2 ?_) | (with_reducible refine callA_pure c2 ?_) | (refine codeW_seq_any (id := 7) [(0, 0), (1, 0), (2, 0), (3, 0), (4, 0), (5, 0), (6, 1), (7, 0)] mixed (by kernel_rfl) (fun K hK => ?_)) | (refine codeW_region_any (id := 7) [(0, 0), (1, 0), (2, 0), (3, 0), (4, 0), (5, 0), (6, 1), (7, 0)] mixed (by kernel_rfl) (fun K hK => ?_))); simp -implicitDefEqProofs only [anyW_nil, anyW_cons, anyO_eq, opsW_nil, opsW_cons, awanted, OpW, aop, AS.ev, put_some, ofV_bool, upd_at, Bool.not_false, ↓reduceIte, List.length_cons, List.length_nil, Nat.reduceAdd, Nat.reduceLT, Nat.reduceLeDiff, Nat.reduceEqDiff, Nat.zero_add, Nat.add_zero, and_self, aFieldAddr, aLoad, aPart, aIndexAddr, aBin, aLen, hget0, List.getElem?_cons_zero, List.getElem?_cons_succ, Option.map_some, List.getElem?_toArray, List.map_cons, List.map_nil, pv_lss, pv_not, goInt, decide_true, Int.toNat_natCast, Int.natCast_nonneg, Int.ofNat_lt, T.av_cells, T.av_isAgg, ti3, ei22, un22, ti25, fi46_0, bav_cells, bavs_length, t0, t3, t6, hlt, bavs_get hlt]) | (with_reducible refine codeW_seq_k (fun K hK => ?_)) | (with_reducible refine codeW_block ?_) | (with_reducible refine codeW_ret ?_) | (with_reducible refine codeW_label ?_) | (with_reducible refine codeW_scope ?_) | (with_reducible refine codeW_skip ?_) | (with_reducible refine codeW_exit ?_) | (with_reducible refine to_then_normal ?_) | (with_reducible refine to_then_ret ?_) | (with_reducible refine to_then_exit ?_) | (with_reducible refine to_block_normal ?_) | (with_reducible refine to_block_ret ?_) | (with_reducible refine to_block_hit ?_) | (with_reducible refine to_block_miss rfl ?_) | ((with_reducible refine hK _ ?_); clear hK) | (clear hK; (with_reducible refine hK _ ?_); clear hK) | (clear hK; clear hK; (with_reducible refine hK _ ?_); clear hK) | (clear hK; clear hK; clear hK; (with_reducible refine hK _ ?_); clear hK) | (refine codeW_cond rfl ?_; simp only [↓reduceIte]) | (intro (b : Bool); cases b))
          simp only [BodyQ, aResults, aResult, upd, ↓reduceIte, Option.some.injEq, exists_eq_left']
          exact leaves_end (htake _ _) (.keep (.v _)) ⟨by rw [he], rfl⟩
      · have hjl : env.drop j = [] := List.drop_eq_nil_of_le (by omega)
        rw [hjl, List.all_nil] at he
        repeat (first | ((first | (with_reducible refine codeW_seq_region (fun K E hK hE => ?_)) | (with_reducible refine codeW_region_k (fun K E hK hE => ?_)) | (refine codeW_seq_any (id := 7) [(0, 0), (1, 0), (2, 0), (3, 0), (4, 0), (5, 0), (6, 1), (7, 0)] mixed (by kernel_rfl) (fun K hK => ?_)) | (refine codeW_region_any (id := 7) [(0, 0), (1, 0), (2, 0), (3, 0), (4, 0), (5, 0), (6, 1), (7, 0)] mixed (by kernel_rfl) (fun K hK => ?_))); simp -implicitDefEqProofs only [opsW_nil, opsW_cons, awanted, OpW, aop, AS.ev, put_some, ofV_bool, upd_at, ↓reduceIte, Nat.reduceLT, Nat.reduceEqDiff, aBin, aLen, Option.map_some, pv_lss, goInt, decide_false, Int.ofNat_lt, un22, bavs_length, t0, t6, hlt]) | (with_reducible refine codeW_seq_k (fun K hK => ?_)) | (with_reducible refine codeW_block ?_) | (with_reducible refine codeW_ret ?_) | (with_reducible refine codeW_label ?_) | (with_reducible refine codeW_scope ?_) | (with_reducible refine codeW_skip ?_) | (with_reducible refine codeW_exit ?_) | (with_reducible refine to_then_normal ?_) | (with_reducible refine to_then_ret ?_) | (with_reducible refine to_then_exit ?_) | (with_reducible refine to_block_normal ?_) | (with_reducible refine to_block_ret ?_) | (with_reducible refine to_block_hit ?_) | (with_reducible refine to_block_miss rfl ?_) | ((with_reducible refine hK _ ?_); clear hK) | (clear hK; (with_reducible refine hK _ ?_); clear hK) | (clear hK; clear hK; (with_reducible refine hK _ ?_); clear hK) | (clear hK; clear hK; clear hK; (with_reducible refine hK _ ?_); clear hK) | (refine codeW_cond rfl ?_; simp only [↓reduceIte, Bool.false_eq_true]) | (intro (b : Bool); cases b))
        simp only [BodyQ, aResults, aResult, upd, ↓reduceIte, Option.some.injEq, exists_eq_left']
        exact leaves_end (htake _ _) (.keep (.v _)) ⟨by rw [he], rfl⟩
    · rw [hI]
      exact ⟨0, by omega, Nat.zero_le _, by rw [e, List.drop_zero], rfl, rfl, rfl, rfl⟩
  · have d : (((ded [] t.vars).length : Int) != env.length) = true := by simp; omega
    have e : coversB env t = false := by simp [coversB, hl]
    refine callW_of_body Try.func21 rfl Try.call21 Try.ntmps21 (congrArg Array.toList Try.results21) (by simp) ?_
    repeat (first | ((first | (with_reducible refine codeW_seq_region (fun K E hK hE => ?_)) | (with_reducible refine codeW_region_k (fun K E hK hE => ?_)) | (with_reducible refine funW_pure c1 ?_) | (with_reducible refine callA_pure c1 ?_) | (refine codeW_seq_any (id := 7) [(0, 0), (1, 0), (2, 0), (3, 0), (4, 0), (5, 0), (6, 1), (7, 0)] mixed (by kernel_rfl) (fun K hK => ?_)) | (refine codeW_region_any (id := 7) [(0, 0), (1, 0), (2, 0), (3, 0), (4, 0), (5, 0), (6, 1), (7, 0)] mixed (by kernel_rfl) (fun K hK => ?_))); simp -implicitDefEqProofs only [opsW_nil, opsW_cons, awanted, OpW, contW, aop, undef, AS.ev, put_some, ofV_bool, upd_at, initTm, List.getD_cons_zero, List.getD_cons_succ, AV.cells1, List.all_cons, List.all_nil, cell1_int, cell1_str, cell1_sl, Bool.and_self, ↓reduceIte, List.length_cons, List.length_nil, Nat.reduceAdd, Nat.reduceLT, Nat.reduceEqDiff, Nat.zero_add, and_self, aLoad, aPart, aBin, aLen, hget0, List.getElem?_cons_zero, Option.map_some, List.map_cons, List.map_nil, pv_neq, goInt, T.av_cells, T.av_isAgg, ints_length, un22, ti25, un68, bavs_length, d]) | (with_reducible refine codeW_seq_k (fun K hK => ?_)) | (with_reducible refine codeW_block ?_) | (with_reducible refine codeW_ret ?_) | (with_reducible refine codeW_label ?_) | (with_reducible refine codeW_scope ?_) | (with_reducible refine codeW_skip ?_) | (with_reducible refine codeW_exit ?_) | (with_reducible refine to_then_normal ?_) | (with_reducible refine to_then_ret ?_) | (with_reducible refine to_then_exit ?_) | (with_reducible refine to_block_normal ?_) | (with_reducible refine to_block_ret ?_) | (with_reducible refine to_block_hit ?_) | (with_reducible refine to_block_miss rfl ?_) | ((with_reducible refine hK _ ?_); clear hK) | (clear hK; (with_reducible refine hK _ ?_); clear hK) | (clear hK; clear hK; (with_reducible refine hK _ ?_); clear hK) | (clear hK; clear hK; clear hK; (with_reducible refine hK _ ?_); clear hK) | (refine codeW_cond rfl ?_; simp only [↓reduceIte]) | (intro (b : Bool); cases b))
    simp only [BodyQ, aResults, aResult, upd, ↓reduceIte, Option.some.injEq, exists_eq_left']
    exact leaves_end (htake _ _) (.keep (.v _)) ⟨by rw [e], rfl⟩
end Go.Proofs.Ytpfcnfcnljnnlaa.Ab
