/-
  IndexFunc, ContainsFunc and Contains.
-/
import Derived.Test.YtoccpldnegloaaaAbD4
set_option linter.unusedSimpArgs false
set_option linter.unusedVariables false
set_option maxHeartbeats 4000000
set_option maxRecDepth 4000
-- @lean
namespace Go.Proofs.Ytoccpldnegloaaa.Ab
open Go.Proofs

/-! the place of the first of a kind -/
def idxF {X : Type} (p : X → Bool) : List X → Option Nat
  | [] => none
  | b :: l => if p b = true then some 0 else (idxF p l).map (· + 1)
def idxFI {X : Type} (p : X → Bool) (l : List X) : Int := match idxF p l with | some i => i | none => -1
theorem idxF_some {X : Type} (p : X → Bool) : ∀ l : List X, (idxF p l).isSome = l.any p
  | [] => rfl
  | b :: l => by
    rw [idxF, List.any_cons]
    cases h : p b with
    | true => rfl
    | false => rw [if_neg (by simp), Bool.false_or, ← idxF_some p l]; cases idxF p l <;> rfl
theorem idxFI_any {X : Type} (p : X → Bool) (l : List X) : decide (idxFI p l ≥ 0) = l.any p := by
  rw [← idxF_some, idxFI]
  cases idxF p l with
  | none => rfl
  | some i => simp

theorem indexFuncInt_call (l : List Int) (p : Int → Bool) (own : Option Nat) (hb : l.length ≤ 1000000) (fv : AV) (h : AH) (hv : ∀ b ∈ l, FunW Try.prog fv [.i b] h fun o h' => o = .ret (.b (p b)) ∧ h' = h) :
    CallW Try.prog 38 [.sl 1 (ints l) own, fv] h fun o h' => o = .ret (.i (idxFI p l)) ∧ h' = h := by
  have hv' : ∀ b ∈ l, ∀ (C : AOut → AH → Prop), C (.ret (.b (p b))) h → FunW Try.prog fv [.i b] h C := fun b hb C k => (hv b hb).mono (by rintro _ _ ⟨rfl, rfl⟩; exact k)
  refine callW_of_body Try.func38 rfl Try.call38 Try.ntmps38 (congrArg Array.toList Try.results38) (by simp) ?_
  repeat (first | ((first | (with_reducible refine codeW_seq_region (fun K E hK hE => ?_)) | (with_reducible refine codeW_region_k (fun K E hK hE => ?_))); simp -implicitDefEqProofs only [opsW_nil, opsW_cons, awanted, OpW, aop, undef, AS.ev, put_some, ofV_int, upd_at, initTm, List.getD_cons_zero, ↓reduceIte, Nat.reduceLT, Nat.reduceEqDiff, aLen, Option.map_some, goInt, ints_length, un28, ints_length]) | (with_reducible refine codeW_seq_k (fun K hK => ?_)) | (with_reducible refine codeW_block ?_) | (with_reducible refine codeW_ret ?_) | (with_reducible refine codeW_label ?_) | (with_reducible refine codeW_scope ?_) | (with_reducible refine codeW_skip ?_) | (with_reducible refine codeW_exit ?_) | (with_reducible refine to_then_normal ?_) | (with_reducible refine to_then_ret ?_) | (with_reducible refine to_then_exit ?_) | (with_reducible refine to_block_normal ?_) | (with_reducible refine to_block_ret ?_) | (with_reducible refine to_block_hit ?_) | (with_reducible refine to_block_miss rfl ?_) | ((with_reducible refine hK _ ?_); clear hK) | (clear hK; (with_reducible refine hK _ ?_); clear hK) | (clear hK; clear hK; (with_reducible refine hK _ ?_); clear hK) | (clear hK; clear hK; clear hK; (with_reducible refine hK _ ?_); clear hK) | (refine codeW_cond rfl ?_; simp only [↓reduceIte, Bool.false_eq_true]) | (intro (b : Bool); cases b))
  obtain ⟨I, hI⟩ : ∃ I : Nat → AS → Prop, I = fun m' s => ∃ j : Nat, m' = l.length - j ∧ j ≤ l.length ∧ idxF p l = (idxF p (l.drop j)).map (· + j) ∧ s.tm 0 = .sl 1 (ints l) own ∧ s.tm 1 = fv ∧ s.tm 7 = .i l.length ∧ s.tm 8 = .i j ∧ s.h = h := ⟨_, rfl⟩; refine codeW_loop I ?_ (m := l.length) ?_
  · intro m' s hs; rw [hI] at hs; obtain ⟨tm, hp⟩ := s; dsimp only at hs; obtain ⟨j, rfl, hj, he, t0, t1, t7, t8, rfl⟩ := hs
    by_cases hlt : j < l.length
    · rw [List.drop_eq_getElem_cons hlt, idxF] at he
      have hc := hv' l[j] (List.getElem_mem hlt)
      cases hz : p l[j] with
      | true =>
        rw [if_pos hz] at he
        rw [hz] at hc
        repeat (first | ((first | (with_reducible refine codeW_seq_region (fun K E hK hE => ?_)) | (with_reducible refine codeW_region_k (fun K E hK hE => ?_)) | (with_reducible refine hc _ ?_)); simp -implicitDefEqProofs only [opsW_nil, opsW_cons, awanted, OpW, contW, aop, AS.ev, put_some, upd_at, cells_v, ↓reduceIte, Nat.reduceLT, Nat.reduceEqDiff, and_self, aLoad, aPart, aIndexAddr, aBin, List.getElem?_cons_zero, Option.map_some, List.map_cons, List.map_nil, pv_lss, decide_true, Int.toNat_natCast, Int.natCast_nonneg, Int.ofNat_lt, ints_length, ti3, ei28, t0, t1, t7, t8, hlt, ints_length, ints_get hlt]) | (with_reducible refine codeW_seq_k (fun K hK => ?_)) | (with_reducible refine codeW_block ?_) | (with_reducible refine codeW_ret ?_) | (with_reducible refine codeW_label ?_) | (with_reducible refine codeW_scope ?_) | (with_reducible refine codeW_skip ?_) | (with_reducible refine codeW_exit ?_) | (with_reducible refine to_then_normal ?_) | (with_reducible refine to_then_ret ?_) | (with_reducible refine to_then_exit ?_) | (with_reducible refine to_block_normal ?_) | (with_reducible refine to_block_ret ?_) | (with_reducible refine to_block_hit ?_) | (with_reducible refine to_block_miss rfl ?_) | ((with_reducible refine hK _ ?_); clear hK) | (clear hK; (with_reducible refine hK _ ?_); clear hK) | (clear hK; clear hK; (with_reducible refine hK _ ?_); clear hK) | (clear hK; clear hK; clear hK; (with_reducible refine hK _ ?_); clear hK) | (refine codeW_cond rfl ?_; simp only [↓reduceIte]) | (intro (b : Bool); cases b))
        simp only [BodyQ, aResults, aResult, upd, ↓reduceIte, Option.some.injEq, exists_eq_left']
        exact leaves_end List.take_length (.keep (.v _)) ⟨by simp [idxFI, he], rfl⟩
      | false =>
        rw [if_neg (by rw [hz]; simp)] at he
        rw [hz] at hc
        repeat (first | ((first | (with_reducible refine codeW_seq_region (fun K E hK hE => ?_)) | (with_reducible refine codeW_region_k (fun K E hK hE => ?_)) | (with_reducible refine hc _ ?_)); simp -implicitDefEqProofs only [opsW_nil, opsW_cons, awanted, OpW, contW, aop, AS.ev, put_some, ofV_int, upd_at, cells_v, ↓reduceIte, Nat.reduceLT, Nat.reduceEqDiff, and_self, aLoad, aPart, aIndexAddr, aBin, List.getElem?_cons_zero, Option.map_some, List.map_cons, List.map_nil, pv_lss, pv_add, decide_true, Int.toNat_natCast, Int.natCast_nonneg, Int.ofNat_lt, ints_length, ti3, ei28, t0, t1, t7, t8, hlt, ints_length, ints_get hlt]) | (with_reducible refine codeW_seq_k (fun K hK => ?_)) | (with_reducible refine codeW_block ?_) | (with_reducible refine codeW_ret ?_) | (with_reducible refine codeW_label ?_) | (with_reducible refine codeW_scope ?_) | (with_reducible refine codeW_skip ?_) | (with_reducible refine codeW_exit ?_) | (with_reducible refine to_then_normal ?_) | (with_reducible refine to_then_ret ?_) | (with_reducible refine to_then_exit ?_) | (with_reducible refine to_block_normal ?_) | (with_reducible refine to_block_ret ?_) | (with_reducible refine to_block_hit ?_) | (with_reducible refine to_block_miss rfl ?_) | ((with_reducible refine hK _ ?_); clear hK) | (clear hK; (with_reducible refine hK _ ?_); clear hK) | (clear hK; clear hK; (with_reducible refine hK _ ?_); clear hK) | (clear hK; clear hK; clear hK; (with_reducible refine hK _ ?_); clear hK) | (refine codeW_cond rfl ?_; simp only [↓reduceIte, Bool.false_eq_true]) | (intro (b : Bool); cases b))
        refine Onward.mk (m' := l.length - (j + 1)) (by omega) ?_
        rw [hI]
        refine ⟨j + 1, rfl, hlt, ?_, t0, t1, t7, ?_, rfl⟩
        · rw [he, Option.map_map]
          congr 1
          funext x
          simp only [Function.comp]
          omega
        · simp only [upd, ↓reduceIte]
          rw [wrap_nat (by omega)]
    · have hjl : j = l.length := by omega
      rw [hjl, List.drop_length] at he
      simp only [idxF, Option.map_none] at he
      repeat (first | ((first | (with_reducible refine codeW_seq_region (fun K E hK hE => ?_)) | (with_reducible refine codeW_region_k (fun K E hK hE => ?_))); simp -implicitDefEqProofs only [opsW_nil, opsW_cons, awanted, OpW, aop, AS.ev, put_some, ofV_int, Nat.reduceLT, aBin, Option.map_some, pv_lss, decide_false, Int.ofNat_lt, t7, t8, hlt]) | (with_reducible refine codeW_seq_k (fun K hK => ?_)) | (with_reducible refine codeW_block ?_) | (with_reducible refine codeW_ret ?_) | (with_reducible refine codeW_label ?_) | (with_reducible refine codeW_scope ?_) | (with_reducible refine codeW_skip ?_) | (with_reducible refine codeW_exit ?_) | (with_reducible refine to_then_normal ?_) | (with_reducible refine to_then_ret ?_) | (with_reducible refine to_then_exit ?_) | (with_reducible refine to_block_normal ?_) | (with_reducible refine to_block_ret ?_) | (with_reducible refine to_block_hit ?_) | (with_reducible refine to_block_miss rfl ?_) | ((with_reducible refine hK _ ?_); clear hK) | (clear hK; (with_reducible refine hK _ ?_); clear hK) | (clear hK; clear hK; (with_reducible refine hK _ ?_); clear hK) | (clear hK; clear hK; clear hK; (with_reducible refine hK _ ?_); clear hK) | (refine codeW_cond rfl ?_; simp only [↓reduceIte, Bool.false_eq_true]) | (intro (b : Bool); cases b))
      simp only [BodyQ, aResults, aResult, upd, ↓reduceIte, Option.some.injEq, exists_eq_left']
      exact leaves_end List.take_length (.keep (.v _)) ⟨by simp [idxFI, he], rfl⟩
  · rw [hI]
    exact ⟨0, by omega, Nat.zero_le _, by simp, rfl, rfl, rfl, rfl, rfl⟩
theorem containsFuncInt_call (l : List Int) (p : Int → Bool) (own : Option Nat) (hb : l.length ≤ 1000000) (fv : AV) (h : AH) (hv : ∀ b ∈ l, FunW Try.prog fv [.i b] h fun o h' => o = .ret (.b (p b)) ∧ h' = h) :
    CallW Try.prog 29 [.sl 1 (ints l) own, fv] h fun o h' => o = .ret (.b (l.any p)) ∧ h' = h := by
  have c := indexFuncInt_call l p own hb fv h hv
  have e := idxFI_any p l
  refine callW_of_body Try.func29 rfl Try.call29 Try.ntmps29 (congrArg Array.toList Try.results29) (by simp) ?_
  repeat (first | ((first | (with_reducible refine codeW_seq_region (fun K E hK hE => ?_)) | (with_reducible refine codeW_region_k (fun K E hK hE => ?_)) | (with_reducible refine FunW.ret (FunW.call c) ?_)); simp -implicitDefEqProofs only [opsW_nil, opsW_cons, awanted, OpW, contW, aop, undef, AS.ev, put_some, ofV_int, ofV_bool, upd_at, initTm, List.getD_cons_zero, List.getD_cons_succ, ↓reduceIte, Nat.reduceLT, Nat.reduceEqDiff, aBin, Option.map_some, List.map_cons, List.map_nil, pv_geq, e]) | (with_reducible refine codeW_seq_k (fun K hK => ?_)) | (with_reducible refine codeW_block ?_) | (with_reducible refine codeW_ret ?_) | (with_reducible refine codeW_label ?_) | (with_reducible refine codeW_scope ?_) | (with_reducible refine codeW_skip ?_) | (with_reducible refine codeW_exit ?_) | (with_reducible refine to_then_normal ?_) | (with_reducible refine to_then_ret ?_) | (with_reducible refine to_then_exit ?_) | (with_reducible refine to_block_normal ?_) | (with_reducible refine to_block_ret ?_) | (with_reducible refine to_block_hit ?_) | (with_reducible refine to_block_miss rfl ?_) | ((with_reducible refine hK _ ?_); clear hK) | (clear hK; (with_reducible refine hK _ ?_); clear hK) | (clear hK; clear hK; (with_reducible refine hK _ ?_); clear hK) | (clear hK; clear hK; clear hK; (with_reducible refine hK _ ?_); clear hK) | (refine codeW_cond rfl ?_; simp only [↓reduceIte, Bool.false_eq_true]) | (intro (b : Bool); cases b))
  simp only [BodyQ, aResults, aResult, upd, ↓reduceIte, Option.some.injEq, exists_eq_left']; first | refine leaves_end (htake _ _) (.keep (.v _)) ⟨rfl, rfl⟩ | refine leaves_end List.take_length (.keep (.v _)) ⟨rfl, rfl⟩

theorem indexFuncKey_call (l : List Ky) (p : Ky → Bool) (own : Option Nat) (hb : l.length ≤ 1000000) (fv : AV) (h : AH) (hv : ∀ b ∈ l, FunW Try.prog fv [Ky.av b] h fun o h' => o = .ret (.b (p b)) ∧ h' = h) :
    CallW Try.prog 35 [.sl 3 (vs Ky.av l) own, fv] h fun o h' => o = .ret (.i (idxFI p l)) ∧ h' = h := by
  have hv' : ∀ b ∈ l, ∀ (C : AOut → AH → Prop), C (.ret (.b (p b))) h → FunW Try.prog fv [Ky.av b] h C := fun b hb C k => (hv b hb).mono (by rintro _ _ ⟨rfl, rfl⟩; exact k)
  refine callW_of_body Try.func35 rfl Try.call35 Try.ntmps35 (congrArg Array.toList Try.results35) (by simp) ?_
  repeat (first | ((first | (with_reducible refine codeW_seq_region (fun K E hK hE => ?_)) | (with_reducible refine codeW_region_k (fun K E hK hE => ?_))); simp -implicitDefEqProofs only [opsW_nil, opsW_cons, awanted, OpW, aop, undef, AS.ev, put_some, ofV_int, upd_at, initTm, List.getD_cons_zero, ↓reduceIte, Nat.reduceLT, Nat.reduceEqDiff, aLen, Option.map_some, goInt, un38, vs_length]) | (with_reducible refine codeW_seq_k (fun K hK => ?_)) | (with_reducible refine codeW_block ?_) | (with_reducible refine codeW_ret ?_) | (with_reducible refine codeW_label ?_) | (with_reducible refine codeW_scope ?_) | (with_reducible refine codeW_skip ?_) | (with_reducible refine codeW_exit ?_) | (with_reducible refine to_then_normal ?_) | (with_reducible refine to_then_ret ?_) | (with_reducible refine to_then_exit ?_) | (with_reducible refine to_block_normal ?_) | (with_reducible refine to_block_ret ?_) | (with_reducible refine to_block_hit ?_) | (with_reducible refine to_block_miss rfl ?_) | ((with_reducible refine hK _ ?_); clear hK) | (clear hK; (with_reducible refine hK _ ?_); clear hK) | (clear hK; clear hK; (with_reducible refine hK _ ?_); clear hK) | (clear hK; clear hK; clear hK; (with_reducible refine hK _ ?_); clear hK) | (refine codeW_cond rfl ?_; simp only [↓reduceIte, Bool.false_eq_true]) | (intro (b : Bool); cases b))
  obtain ⟨I, hI⟩ : ∃ I : Nat → AS → Prop, I = fun m' s => ∃ j : Nat, m' = l.length - j ∧ j ≤ l.length ∧ idxF p l = (idxF p (l.drop j)).map (· + j) ∧ s.tm 0 = .sl 3 (vs Ky.av l) own ∧ s.tm 1 = fv ∧ s.tm 7 = .i l.length ∧ s.tm 8 = .i j ∧ s.h = h := ⟨_, rfl⟩; refine codeW_loop I ?_ (m := l.length) ?_
  · intro m' s hs; rw [hI] at hs; obtain ⟨tm, hp⟩ := s; dsimp only at hs; obtain ⟨j, rfl, hj, he, t0, t1, t7, t8, rfl⟩ := hs
    by_cases hlt : j < l.length
    · rw [List.drop_eq_getElem_cons hlt, idxF] at he
      have hc := hv' l[j] (List.getElem_mem hlt)
      cases hz : p l[j] with
      | true =>
        rw [if_pos hz] at he
        rw [hz] at hc
        repeat (first | ((first | (with_reducible refine codeW_seq_region (fun K E hK hE => ?_)) | (with_reducible refine codeW_region_k (fun K E hK hE => ?_)) | (with_reducible refine hc _ ?_)); simp -implicitDefEqProofs only [opsW_nil, opsW_cons, awanted, OpW, contW, aop, AS.ev, put_some, upd_at, ↓reduceIte, List.length_cons, List.length_nil, Nat.reduceAdd, Nat.reduceLT, Nat.reduceEqDiff, Nat.zero_add, and_self, aLoad, aPart, aIndexAddr, aBin, Option.map_some, List.map_cons, List.map_nil, pv_lss, decide_true, Int.toNat_natCast, Int.natCast_nonneg, Int.ofNat_lt, ti30, ei38, t0, t1, t7, t8, hlt, vs_length, vs_get Ky.av hlt, Ky.cells, Ky.isAgg]) | (with_reducible refine codeW_seq_k (fun K hK => ?_)) | (with_reducible refine codeW_block ?_) | (with_reducible refine codeW_ret ?_) | (with_reducible refine codeW_label ?_) | (with_reducible refine codeW_scope ?_) | (with_reducible refine codeW_skip ?_) | (with_reducible refine codeW_exit ?_) | (with_reducible refine to_then_normal ?_) | (with_reducible refine to_then_ret ?_) | (with_reducible refine to_then_exit ?_) | (with_reducible refine to_block_normal ?_) | (with_reducible refine to_block_ret ?_) | (with_reducible refine to_block_hit ?_) | (with_reducible refine to_block_miss rfl ?_) | ((with_reducible refine hK _ ?_); clear hK) | (clear hK; (with_reducible refine hK _ ?_); clear hK) | (clear hK; clear hK; (with_reducible refine hK _ ?_); clear hK) | (clear hK; clear hK; clear hK; (with_reducible refine hK _ ?_); clear hK) | (refine codeW_cond rfl ?_; simp only [↓reduceIte]) | (intro (b : Bool); cases b))
        simp only [BodyQ, aResults, aResult, upd, ↓reduceIte, Option.some.injEq, exists_eq_left']
        exact leaves_end List.take_length (.keep (.v _)) ⟨by simp [idxFI, he], rfl⟩
      | false =>
        rw [if_neg (by rw [hz]; simp)] at he
        rw [hz] at hc
        repeat (first | ((first | (with_reducible refine codeW_seq_region (fun K E hK hE => ?_)) | (with_reducible refine codeW_region_k (fun K E hK hE => ?_)) | (with_reducible refine hc _ ?_)); simp -implicitDefEqProofs only [opsW_nil, opsW_cons, awanted, OpW, contW, aop, AS.ev, put_some, ofV_int, upd_at, ↓reduceIte, List.length_cons, List.length_nil, Nat.reduceAdd, Nat.reduceLT, Nat.reduceEqDiff, Nat.zero_add, and_self, aLoad, aPart, aIndexAddr, aBin, Option.map_some, List.map_cons, List.map_nil, pv_lss, pv_add, decide_true, Int.toNat_natCast, Int.natCast_nonneg, Int.ofNat_lt, ti30, ei38, t0, t1, t7, t8, hlt, vs_length, vs_get Ky.av hlt, Ky.cells, Ky.isAgg]) | (with_reducible refine codeW_seq_k (fun K hK => ?_)) | (with_reducible refine codeW_block ?_) | (with_reducible refine codeW_ret ?_) | (with_reducible refine codeW_label ?_) | (with_reducible refine codeW_scope ?_) | (with_reducible refine codeW_skip ?_) | (with_reducible refine codeW_exit ?_) | (with_reducible refine to_then_normal ?_) | (with_reducible refine to_then_ret ?_) | (with_reducible refine to_then_exit ?_) | (with_reducible refine to_block_normal ?_) | (with_reducible refine to_block_ret ?_) | (with_reducible refine to_block_hit ?_) | (with_reducible refine to_block_miss rfl ?_) | ((with_reducible refine hK _ ?_); clear hK) | (clear hK; (with_reducible refine hK _ ?_); clear hK) | (clear hK; clear hK; (with_reducible refine hK _ ?_); clear hK) | (clear hK; clear hK; clear hK; (with_reducible refine hK _ ?_); clear hK) | (refine codeW_cond rfl ?_; simp only [↓reduceIte, Bool.false_eq_true]) | (intro (b : Bool); cases b))
        refine Onward.mk (m' := l.length - (j + 1)) (by omega) ?_
        rw [hI]
        refine ⟨j + 1, rfl, hlt, ?_, t0, t1, t7, ?_, rfl⟩
        · rw [he, Option.map_map]
          congr 1
          funext x
          simp only [Function.comp]
          omega
        · simp only [upd, ↓reduceIte]
          rw [wrap_nat (by omega)]
    · have hjl : j = l.length := by omega
      rw [hjl, List.drop_length] at he
      simp only [idxF, Option.map_none] at he
      repeat (first | ((first | (with_reducible refine codeW_seq_region (fun K E hK hE => ?_)) | (with_reducible refine codeW_region_k (fun K E hK hE => ?_))); simp -implicitDefEqProofs only [opsW_nil, opsW_cons, awanted, OpW, aop, AS.ev, put_some, ofV_int, Nat.reduceLT, aBin, Option.map_some, pv_lss, decide_false, Int.ofNat_lt, t7, t8, hlt]) | (with_reducible refine codeW_seq_k (fun K hK => ?_)) | (with_reducible refine codeW_block ?_) | (with_reducible refine codeW_ret ?_) | (with_reducible refine codeW_label ?_) | (with_reducible refine codeW_scope ?_) | (with_reducible refine codeW_skip ?_) | (with_reducible refine codeW_exit ?_) | (with_reducible refine to_then_normal ?_) | (with_reducible refine to_then_ret ?_) | (with_reducible refine to_then_exit ?_) | (with_reducible refine to_block_normal ?_) | (with_reducible refine to_block_ret ?_) | (with_reducible refine to_block_hit ?_) | (with_reducible refine to_block_miss rfl ?_) | ((with_reducible refine hK _ ?_); clear hK) | (clear hK; (with_reducible refine hK _ ?_); clear hK) | (clear hK; clear hK; (with_reducible refine hK _ ?_); clear hK) | (clear hK; clear hK; clear hK; (with_reducible refine hK _ ?_); clear hK) | (refine codeW_cond rfl ?_; simp only [↓reduceIte, Bool.false_eq_true]) | (intro (b : Bool); cases b))
      simp only [BodyQ, aResults, aResult, upd, ↓reduceIte, Option.some.injEq, exists_eq_left']
      exact leaves_end List.take_length (.keep (.v _)) ⟨by simp [idxFI, he], rfl⟩
  · rw [hI]
    exact ⟨0, by omega, Nat.zero_le _, by simp, rfl, rfl, rfl, rfl, rfl⟩
theorem containsFuncKey_call (l : List Ky) (p : Ky → Bool) (own : Option Nat) (hb : l.length ≤ 1000000) (fv : AV) (h : AH) (hv : ∀ b ∈ l, FunW Try.prog fv [Ky.av b] h fun o h' => o = .ret (.b (p b)) ∧ h' = h) :
    CallW Try.prog 24 [.sl 3 (vs Ky.av l) own, fv] h fun o h' => o = .ret (.b (l.any p)) ∧ h' = h := by
  have c := indexFuncKey_call l p own hb fv h hv
  have e := idxFI_any p l
  refine callW_of_body Try.func24 rfl Try.call24 Try.ntmps24 (congrArg Array.toList Try.results24) (by simp) ?_
  repeat (first | ((first | (with_reducible refine codeW_seq_region (fun K E hK hE => ?_)) | (with_reducible refine codeW_region_k (fun K E hK hE => ?_)) | (with_reducible refine FunW.ret (FunW.call c) ?_)); simp -implicitDefEqProofs only [opsW_nil, opsW_cons, awanted, OpW, contW, aop, undef, AS.ev, put_some, ofV_int, ofV_bool, upd_at, initTm, List.getD_cons_zero, List.getD_cons_succ, ↓reduceIte, Nat.reduceLT, Nat.reduceEqDiff, aBin, Option.map_some, List.map_cons, List.map_nil, pv_geq, e]) | (with_reducible refine codeW_seq_k (fun K hK => ?_)) | (with_reducible refine codeW_block ?_) | (with_reducible refine codeW_ret ?_) | (with_reducible refine codeW_label ?_) | (with_reducible refine codeW_scope ?_) | (with_reducible refine codeW_skip ?_) | (with_reducible refine codeW_exit ?_) | (with_reducible refine to_then_normal ?_) | (with_reducible refine to_then_ret ?_) | (with_reducible refine to_then_exit ?_) | (with_reducible refine to_block_normal ?_) | (with_reducible refine to_block_ret ?_) | (with_reducible refine to_block_hit ?_) | (with_reducible refine to_block_miss rfl ?_) | ((with_reducible refine hK _ ?_); clear hK) | (clear hK; (with_reducible refine hK _ ?_); clear hK) | (clear hK; clear hK; (with_reducible refine hK _ ?_); clear hK) | (clear hK; clear hK; clear hK; (with_reducible refine hK _ ?_); clear hK) | (refine codeW_cond rfl ?_; simp only [↓reduceIte, Bool.false_eq_true]) | (intro (b : Bool); cases b))
  simp only [BodyQ, aResults, aResult, upd, ↓reduceIte, Option.some.injEq, exists_eq_left']; first | refine leaves_end (htake _ _) (.keep (.v _)) ⟨rfl, rfl⟩ | refine leaves_end List.take_length (.keep (.v _)) ⟨rfl, rfl⟩

theorem indexInt_pure (l : List Int) (n : Int) (hb : l.length ≤ 1000000) : Pure Try.prog 37 [.sl 1 (ints l) none, .i n] (.i (idxFI (fun x => n == x) l)) := by
  intro h
  refine callW_of_body Try.func37 rfl Try.call37 Try.ntmps37 (congrArg Array.toList Try.results37) (by simp) ?_
  repeat (first | ((first | (with_reducible refine codeW_seq_region (fun K E hK hE => ?_)) | (with_reducible refine codeW_region_k (fun K E hK hE => ?_))); simp -implicitDefEqProofs only [opsW_nil, opsW_cons, awanted, OpW, aop, undef, AS.ev, put_some, ofV_int, upd_at, initTm, List.getD_cons_zero, ↓reduceIte, Nat.reduceLT, Nat.reduceEqDiff, aLen, Option.map_some, goInt, ints_length, un28]) | (with_reducible refine codeW_seq_k (fun K hK => ?_)) | (with_reducible refine codeW_block ?_) | (with_reducible refine codeW_ret ?_) | (with_reducible refine codeW_label ?_) | (with_reducible refine codeW_scope ?_) | (with_reducible refine codeW_skip ?_) | (with_reducible refine codeW_exit ?_) | (with_reducible refine to_then_normal ?_) | (with_reducible refine to_then_ret ?_) | (with_reducible refine to_then_exit ?_) | (with_reducible refine to_block_normal ?_) | (with_reducible refine to_block_ret ?_) | (with_reducible refine to_block_hit ?_) | (with_reducible refine to_block_miss rfl ?_) | ((with_reducible refine hK _ ?_); clear hK) | (clear hK; (with_reducible refine hK _ ?_); clear hK) | (clear hK; clear hK; (with_reducible refine hK _ ?_); clear hK) | (clear hK; clear hK; clear hK; (with_reducible refine hK _ ?_); clear hK) | (refine codeW_cond rfl ?_; simp only [↓reduceIte, Bool.false_eq_true]) | (intro (b : Bool); cases b))
  obtain ⟨I, hI⟩ : ∃ I : Nat → AS → Prop, I = fun m' s => ∃ j : Nat, m' = l.length - j ∧ j ≤ l.length ∧ idxF (fun x => n == x) l = (idxF (fun x => n == x) (l.drop j)).map (· + j) ∧ s.tm 0 = .sl 1 (ints l) none ∧ s.tm 1 = .i n ∧ s.tm 7 = .i l.length ∧ s.tm 8 = .i j ∧ s.h = h := ⟨_, rfl⟩; refine codeW_loop I ?_ (m := l.length) ?_
  · intro m' s hs; rw [hI] at hs; obtain ⟨tm, hp⟩ := s; dsimp only at hs; obtain ⟨j, rfl, hj, he, t0, t1, t7, t8, rfl⟩ := hs
    by_cases hlt : j < l.length
    · rw [List.drop_eq_getElem_cons hlt, idxF] at he
      cases hz : (n == l[j]) with
      | true =>
        rw [if_pos hz] at he
        repeat (first | ((first | (with_reducible refine codeW_seq_region (fun K E hK hE => ?_)) | (with_reducible refine codeW_region_k (fun K E hK hE => ?_))); simp -implicitDefEqProofs only [opsW_nil, opsW_cons, awanted, OpW, aop, AS.ev, put_some, upd_at, cells_v, ↓reduceIte, Nat.reduceLT, Nat.reduceEqDiff, and_self, aLoad, aPart, aIndexAddr, aBin, List.getElem?_cons_zero, Option.map_some, pv_eql, pv_lss, decide_true, Int.toNat_natCast, Int.natCast_nonneg, Int.ofNat_lt, ints_length, ti3, ei28, t0, t1, t7, t8, hlt, ints_get hlt, hz]) | (with_reducible refine codeW_seq_k (fun K hK => ?_)) | (with_reducible refine codeW_block ?_) | (with_reducible refine codeW_ret ?_) | (with_reducible refine codeW_label ?_) | (with_reducible refine codeW_scope ?_) | (with_reducible refine codeW_skip ?_) | (with_reducible refine codeW_exit ?_) | (with_reducible refine to_then_normal ?_) | (with_reducible refine to_then_ret ?_) | (with_reducible refine to_then_exit ?_) | (with_reducible refine to_block_normal ?_) | (with_reducible refine to_block_ret ?_) | (with_reducible refine to_block_hit ?_) | (with_reducible refine to_block_miss rfl ?_) | ((with_reducible refine hK _ ?_); clear hK) | (clear hK; (with_reducible refine hK _ ?_); clear hK) | (clear hK; clear hK; (with_reducible refine hK _ ?_); clear hK) | (clear hK; clear hK; clear hK; (with_reducible refine hK _ ?_); clear hK) | (refine codeW_cond rfl ?_; simp only [↓reduceIte]) | (intro (b : Bool); cases b))
        simp only [BodyQ, aResults, aResult, upd, ↓reduceIte, Option.some.injEq, exists_eq_left']
        exact leaves_end List.take_length (.keep (.v _)) ⟨by simp [idxFI, he], rfl⟩
      | false =>
        rw [if_neg (by rw [hz]; simp)] at he
        repeat (first | ((first | (with_reducible refine codeW_seq_region (fun K E hK hE => ?_)) | (with_reducible refine codeW_region_k (fun K E hK hE => ?_))); simp -implicitDefEqProofs only [opsW_nil, opsW_cons, awanted, OpW, aop, AS.ev, put_some, ofV_int, upd_at, cells_v, ↓reduceIte, Nat.reduceLT, Nat.reduceEqDiff, and_self, aLoad, aPart, aIndexAddr, aBin, List.getElem?_cons_zero, Option.map_some, pv_eql, pv_lss, pv_add, decide_true, Int.toNat_natCast, Int.natCast_nonneg, Int.ofNat_lt, ints_length, ti3, ei28, t0, t1, t7, t8, hlt, ints_get hlt, hz]) | (with_reducible refine codeW_seq_k (fun K hK => ?_)) | (with_reducible refine codeW_block ?_) | (with_reducible refine codeW_ret ?_) | (with_reducible refine codeW_label ?_) | (with_reducible refine codeW_scope ?_) | (with_reducible refine codeW_skip ?_) | (with_reducible refine codeW_exit ?_) | (with_reducible refine to_then_normal ?_) | (with_reducible refine to_then_ret ?_) | (with_reducible refine to_then_exit ?_) | (with_reducible refine to_block_normal ?_) | (with_reducible refine to_block_ret ?_) | (with_reducible refine to_block_hit ?_) | (with_reducible refine to_block_miss rfl ?_) | ((with_reducible refine hK _ ?_); clear hK) | (clear hK; (with_reducible refine hK _ ?_); clear hK) | (clear hK; clear hK; (with_reducible refine hK _ ?_); clear hK) | (clear hK; clear hK; clear hK; (with_reducible refine hK _ ?_); clear hK) | (refine codeW_cond rfl ?_; simp only [↓reduceIte, Bool.false_eq_true]) | (intro (b : Bool); cases b))
        refine Onward.mk (m' := l.length - (j + 1)) (by omega) ?_
        rw [hI]
        refine ⟨j + 1, rfl, hlt, ?_, t0, t1, t7, ?_, rfl⟩
        · rw [he, Option.map_map]
          congr 1
          funext x
          simp only [Function.comp]
          omega
        · simp only [upd, ↓reduceIte]
          rw [wrap_nat (by omega)]
    · have hjl : j = l.length := by omega
      rw [hjl, List.drop_length] at he
      simp only [idxF, Option.map_none] at he
      repeat (first | ((first | (with_reducible refine codeW_seq_region (fun K E hK hE => ?_)) | (with_reducible refine codeW_region_k (fun K E hK hE => ?_))); simp -implicitDefEqProofs only [opsW_nil, opsW_cons, awanted, OpW, aop, AS.ev, put_some, ofV_int, Nat.reduceLT, aBin, Option.map_some, pv_lss, decide_false, Int.ofNat_lt, t7, t8, hlt]) | (with_reducible refine codeW_seq_k (fun K hK => ?_)) | (with_reducible refine codeW_block ?_) | (with_reducible refine codeW_ret ?_) | (with_reducible refine codeW_label ?_) | (with_reducible refine codeW_scope ?_) | (with_reducible refine codeW_skip ?_) | (with_reducible refine codeW_exit ?_) | (with_reducible refine to_then_normal ?_) | (with_reducible refine to_then_ret ?_) | (with_reducible refine to_then_exit ?_) | (with_reducible refine to_block_normal ?_) | (with_reducible refine to_block_ret ?_) | (with_reducible refine to_block_hit ?_) | (with_reducible refine to_block_miss rfl ?_) | ((with_reducible refine hK _ ?_); clear hK) | (clear hK; (with_reducible refine hK _ ?_); clear hK) | (clear hK; clear hK; (with_reducible refine hK _ ?_); clear hK) | (clear hK; clear hK; clear hK; (with_reducible refine hK _ ?_); clear hK) | (refine codeW_cond rfl ?_; simp only [↓reduceIte, Bool.false_eq_true]) | (intro (b : Bool); cases b))
      simp only [BodyQ, aResults, aResult, upd, ↓reduceIte, Option.some.injEq, exists_eq_left']
      exact leaves_end List.take_length (.keep (.v _)) ⟨by simp [idxFI, he], rfl⟩
  · rw [hI]
    exact ⟨0, by omega, Nat.zero_le _, by simp, rfl, rfl, rfl, rfl, rfl⟩
theorem any_mem (n : Int) (l : List Int) : (l.any fun x => n == x) = decide (n ∈ l) := by
  induction l with
  | nil => rfl
  | cons a l ih => rw [List.any_cons, ih]; by_cases h : n = a <;> simp [h]
theorem containsInt_pure (l : List Int) (n : Int) (hb : l.length ≤ 1000000) : Pure Try.prog 28 [.sl 1 (ints l) none, .i n] (.b (decide (n ∈ l))) := by
  intro h
  have c := indexInt_pure l n hb
  have e := idxFI_any (fun x => n == x) l
  rw [any_mem] at e
  refine callW_of_body Try.func28 rfl Try.call28 Try.ntmps28 (congrArg Array.toList Try.results28) (by simp) ?_
  repeat (first | ((first | (with_reducible refine codeW_seq_region (fun K E hK hE => ?_)) | (with_reducible refine codeW_region_k (fun K E hK hE => ?_)) | (with_reducible refine funW_pure c ?_) | (with_reducible refine callA_pure c ?_)); simp -implicitDefEqProofs only [opsW_nil, opsW_cons, awanted, OpW, contW, aop, undef, AS.ev, put_some, ofV_int, ofV_bool, upd_at, initTm, List.getD_cons_zero, List.getD_cons_succ, ↓reduceIte, Nat.reduceLT, Nat.reduceEqDiff, aBin, Option.map_some, List.map_cons, List.map_nil, pv_geq, e]) | (with_reducible refine codeW_seq_k (fun K hK => ?_)) | (with_reducible refine codeW_block ?_) | (with_reducible refine codeW_ret ?_) | (with_reducible refine codeW_label ?_) | (with_reducible refine codeW_scope ?_) | (with_reducible refine codeW_skip ?_) | (with_reducible refine codeW_exit ?_) | (with_reducible refine to_then_normal ?_) | (with_reducible refine to_then_ret ?_) | (with_reducible refine to_then_exit ?_) | (with_reducible refine to_block_normal ?_) | (with_reducible refine to_block_ret ?_) | (with_reducible refine to_block_hit ?_) | (with_reducible refine to_block_miss rfl ?_) | ((with_reducible refine hK _ ?_); clear hK) | (clear hK; (with_reducible refine hK _ ?_); clear hK) | (clear hK; clear hK; (with_reducible refine hK _ ?_); clear hK) | (clear hK; clear hK; clear hK; (with_reducible refine hK _ ?_); clear hK) | (refine codeW_cond rfl ?_; simp only [↓reduceIte, Bool.false_eq_true]) | (intro (b : Bool); cases b))
  simp only [BodyQ, aResults, aResult, upd, ↓reduceIte, Option.some.injEq, exists_eq_left']; first | refine leaves_end (htake _ _) (.keep (.v _)) ⟨rfl, rfl⟩ | refine leaves_end List.take_length (.keep (.v _)) ⟨rfl, rfl⟩
theorem refInK_pure (l : List Int) (n : Int) (hb : l.length ≤ 1000000) : Pure Try.prog 30 [.sl 1 (ints l) none, .i n] (.b (decide (n ∈ l))) := by
  intro h
  refine callW_of_body Try.func30 rfl Try.call30 Try.ntmps30 (congrArg Array.toList Try.results30) (by simp) ?_
  repeat (first | ((first | (with_reducible refine codeW_seq_region (fun K E hK hE => ?_)) | (with_reducible refine codeW_region_k (fun K E hK hE => ?_))); simp -implicitDefEqProofs only [opsW_nil, opsW_cons, awanted, OpW, aop, AS.ev, put_some, ofV_int, ofV_bool, Nat.reduceLT]) | (with_reducible refine codeW_seq_k (fun K hK => ?_)) | (with_reducible refine codeW_block ?_) | (with_reducible refine codeW_ret ?_) | (with_reducible refine codeW_label ?_) | (with_reducible refine codeW_scope ?_) | (with_reducible refine codeW_skip ?_) | (with_reducible refine codeW_exit ?_) | (with_reducible refine to_then_normal ?_) | (with_reducible refine to_then_ret ?_) | (with_reducible refine to_then_exit ?_) | (with_reducible refine to_block_normal ?_) | (with_reducible refine to_block_ret ?_) | (with_reducible refine to_block_hit ?_) | (with_reducible refine to_block_miss rfl ?_) | ((with_reducible refine hK _ ?_); clear hK) | (clear hK; (with_reducible refine hK _ ?_); clear hK) | (clear hK; clear hK; (with_reducible refine hK _ ?_); clear hK) | (clear hK; clear hK; clear hK; (with_reducible refine hK _ ?_); clear hK) | (refine codeW_cond rfl ?_; simp only [↓reduceIte, Bool.false_eq_true]) | (intro (b : Bool); cases b))
  obtain ⟨I, hI⟩ : ∃ I : Nat → AS → Prop, I = fun m' s => ∃ j : Nat, m' = l.length - j ∧ j ≤ l.length ∧ (n ∈ l ↔ n ∈ l.drop j) ∧ s.tm 0 = .sl 1 (ints l) none ∧ s.tm 1 = .i n ∧ s.tm 5 = .i j ∧ s.h = h := ⟨_, rfl⟩; refine codeW_loop I ?_ (m := l.length) ?_
  · intro m' s hs; rw [hI] at hs; obtain ⟨tm, hp⟩ := s; dsimp only at hs; obtain ⟨j, rfl, hj, he, t0, t1, t5, rfl⟩ := hs
    by_cases hlt : j < l.length
    · rw [List.drop_eq_getElem_cons hlt, List.mem_cons] at he
      by_cases hz : l[j] = n
      · have hb1 : (l[j] == n) = true := by simpa using hz
        have hm : n ∈ l := he.2 (.inl hz.symm)
        repeat (first | ((first | (with_reducible refine codeW_seq_region (fun K E hK hE => ?_)) | (with_reducible refine codeW_region_k (fun K E hK hE => ?_))); simp -implicitDefEqProofs only [opsW_nil, opsW_cons, awanted, OpW, aop, AS.ev, put_some, ofV_bool, upd_at, cells_v, ↓reduceIte, Nat.reduceLT, Nat.reduceEqDiff, and_self, aLoad, aPart, aIndexAddr, aBin, aLen, List.getElem?_cons_zero, Option.map_some, pv_eql, pv_lss, goInt, decide_true, Int.toNat_natCast, Int.natCast_nonneg, Int.ofNat_lt, ints_length, ti3, ei28, un28, t0, t1, t5, hlt, ints_get hlt, hb1]) | (with_reducible refine codeW_seq_k (fun K hK => ?_)) | (with_reducible refine codeW_block ?_) | (with_reducible refine codeW_ret ?_) | (with_reducible refine codeW_label ?_) | (with_reducible refine codeW_scope ?_) | (with_reducible refine codeW_skip ?_) | (with_reducible refine codeW_exit ?_) | (with_reducible refine to_then_normal ?_) | (with_reducible refine to_then_ret ?_) | (with_reducible refine to_then_exit ?_) | (with_reducible refine to_block_normal ?_) | (with_reducible refine to_block_ret ?_) | (with_reducible refine to_block_hit ?_) | (with_reducible refine to_block_miss rfl ?_) | ((with_reducible refine hK _ ?_); clear hK) | (clear hK; (with_reducible refine hK _ ?_); clear hK) | (clear hK; clear hK; (with_reducible refine hK _ ?_); clear hK) | (clear hK; clear hK; clear hK; (with_reducible refine hK _ ?_); clear hK) | (refine codeW_cond rfl ?_; simp only [↓reduceIte]) | (intro (b : Bool); cases b))
        simp only [BodyQ, aResults, aResult, upd, ↓reduceIte, Option.some.injEq, exists_eq_left']
        exact leaves_end List.take_length (.keep (.v _)) ⟨by rw [decide_eq_true hm], rfl⟩
      · have hb1 : (l[j] == n) = false := by simpa using hz
        repeat (first | ((first | (with_reducible refine codeW_seq_region (fun K E hK hE => ?_)) | (with_reducible refine codeW_region_k (fun K E hK hE => ?_))); simp -implicitDefEqProofs only [opsW_nil, opsW_cons, awanted, OpW, aop, AS.ev, put_some, ofV_int, upd_at, cells_v, ↓reduceIte, Nat.reduceLT, Nat.reduceEqDiff, and_self, aLoad, aPart, aIndexAddr, aBin, aLen, List.getElem?_cons_zero, Option.map_some, pv_eql, pv_lss, pv_add, goInt, decide_true, Int.toNat_natCast, Int.natCast_nonneg, Int.ofNat_lt, ints_length, ti3, ei28, un28, t0, t1, t5, hlt, ints_get hlt, hb1]) | (with_reducible refine codeW_seq_k (fun K hK => ?_)) | (with_reducible refine codeW_block ?_) | (with_reducible refine codeW_ret ?_) | (with_reducible refine codeW_label ?_) | (with_reducible refine codeW_scope ?_) | (with_reducible refine codeW_skip ?_) | (with_reducible refine codeW_exit ?_) | (with_reducible refine to_then_normal ?_) | (with_reducible refine to_then_ret ?_) | (with_reducible refine to_then_exit ?_) | (with_reducible refine to_block_normal ?_) | (with_reducible refine to_block_ret ?_) | (with_reducible refine to_block_hit ?_) | (with_reducible refine to_block_miss rfl ?_) | ((with_reducible refine hK _ ?_); clear hK) | (clear hK; (with_reducible refine hK _ ?_); clear hK) | (clear hK; clear hK; (with_reducible refine hK _ ?_); clear hK) | (clear hK; clear hK; clear hK; (with_reducible refine hK _ ?_); clear hK) | (refine codeW_cond rfl ?_; simp only [↓reduceIte, Bool.false_eq_true]) | (intro (b : Bool); cases b))
        refine Onward.mk (m' := l.length - (j + 1)) (by omega) ?_
        rw [hI]
        refine ⟨j + 1, rfl, hlt, he.trans ⟨fun h => h.elim (fun e => absurd e.symm hz) id, .inr⟩, t0, t1, ?_, rfl⟩
        simp only [upd, ↓reduceIte]
        rw [wrap_nat (by omega)]
    · have hjl : j = l.length := by omega
      rw [hjl, List.drop_length] at he
      have hm : ¬ n ∈ l := fun h => by simpa using he.1 h
      repeat (first | ((first | (with_reducible refine codeW_seq_region (fun K E hK hE => ?_)) | (with_reducible refine codeW_region_k (fun K E hK hE => ?_))); simp -implicitDefEqProofs only [opsW_nil, opsW_cons, awanted, OpW, aop, AS.ev, put_some, ofV_bool, upd_at, ↓reduceIte, Nat.reduceLT, Nat.reduceEqDiff, aBin, aLen, Option.map_some, pv_lss, goInt, decide_false, Int.ofNat_lt, ints_length, un28, t0, t5, hlt]) | (with_reducible refine codeW_seq_k (fun K hK => ?_)) | (with_reducible refine codeW_block ?_) | (with_reducible refine codeW_ret ?_) | (with_reducible refine codeW_label ?_) | (with_reducible refine codeW_scope ?_) | (with_reducible refine codeW_skip ?_) | (with_reducible refine codeW_exit ?_) | (with_reducible refine to_then_normal ?_) | (with_reducible refine to_then_ret ?_) | (with_reducible refine to_then_exit ?_) | (with_reducible refine to_block_normal ?_) | (with_reducible refine to_block_ret ?_) | (with_reducible refine to_block_hit ?_) | (with_reducible refine to_block_miss rfl ?_) | ((with_reducible refine hK _ ?_); clear hK) | (clear hK; (with_reducible refine hK _ ?_); clear hK) | (clear hK; clear hK; (with_reducible refine hK _ ?_); clear hK) | (clear hK; clear hK; clear hK; (with_reducible refine hK _ ?_); clear hK) | (refine codeW_cond rfl ?_; simp only [↓reduceIte, Bool.false_eq_true]) | (intro (b : Bool); cases b))
      simp only [BodyQ, aResults, aResult, upd, ↓reduceIte, Option.some.injEq, exists_eq_left']
      exact leaves_end List.take_length (.keep (.v _)) ⟨by rw [decide_eq_false hm], rfl⟩
  · rw [hI]
    exact ⟨0, by omega, Nat.zero_le _, by simp, rfl, rfl, rfl, rfl⟩
end Go.Proofs.Ytoccpldnegloaaa.Ab
