/-
  Grow and Concat for pairs.
-/
import Derived.Test.YtpfcnfcnljnnlaaAbMe
set_option linter.unusedSimpArgs false
set_option linter.unusedVariables false
set_option maxHeartbeats 4000000
set_option maxRecDepth 4000
namespace Go.Proofs.Ytpfcnfcnljnnlaa.Ab
open Go.Proofs

theorem pv_lenNil (P : Program) (t ty : TypeId) {e : TypeId} (hu : P.underlying t = some (.slice e)) : pv P (Builtin.len_ #[t] ty #[.slice none 0 0]) = some (.int .i64 0) := by
  have hp : ∀ {α : Type} (x : α), pv P (pure x) = some x := fun _ => rfl
  simp only [Builtin.len_, List.getElem?_toArray, List.getElem?_cons_zero, underlying]
  rw [pv_bind, pv_bind]
  simp only [program, pv, Option.bind_some, hu, hp]
  rfl
theorem grow_zero (h : AH) : CallW Try.prog 65 [.v (.slice none 0 0), .i 0] h fun o h' => o = .ret (.v (.slice none 0 0)) ∧ h' = h := by
  have z0 : ¬ ((0 : Int) < 0) := by decide
  have z1 : ¬ ((0 : Int) > 0) := by decide
  have w0 : IntKind.i64.wrap 0 = 0 := by decide
  have ln := pv_lenNil Try.prog 63 3 (e := 62) (by kernel_rfl)
  refine callW_of_body Try.func65 rfl Try.call65 Try.ntmps65 (congrArg Array.toList Try.results65) (by simp) ?_
  repeat (first | ((first | (with_reducible refine codeW_seq_region (fun K E hK hE => ?_)) | (with_reducible refine codeW_region_k (fun K E hK hE => ?_))); simp -implicitDefEqProofs only [opsW_nil, opsW_cons, awanted, OpW, aop, undef, AS.ev, put_some, ofV_int, ofV_slice, upd_at, initTm, List.getD_cons_zero, List.getD_cons_succ, ↓reduceIte, Nat.reduceLT, Nat.reduceEqDiff, aBin, aLen, Option.map_some, pv_lss, pv_gtr, pv_sub, goInt, decide_false, un63, aCap, Int.sub_zero, ln, z0, w0]) | (with_reducible refine codeW_seq_k (fun K hK => ?_)) | (with_reducible refine codeW_block ?_) | (with_reducible refine codeW_ret ?_) | (with_reducible refine codeW_label ?_) | (with_reducible refine codeW_scope ?_) | (with_reducible refine codeW_skip ?_) | (with_reducible refine codeW_exit ?_) | (with_reducible refine to_then_normal ?_) | (with_reducible refine to_then_ret ?_) | (with_reducible refine to_then_exit ?_) | (with_reducible refine to_block_normal ?_) | (with_reducible refine to_block_ret ?_) | (with_reducible refine to_block_hit ?_) | (with_reducible refine to_block_miss rfl ?_) | ((with_reducible refine hK _ ?_); clear hK) | (clear hK; (with_reducible refine hK _ ?_); clear hK) | (clear hK; clear hK; (with_reducible refine hK _ ?_); clear hK) | (clear hK; clear hK; clear hK; (with_reducible refine hK _ ?_); clear hK) | (refine codeW_cond rfl ?_; simp only [↓reduceIte, Bool.false_eq_true]) | (intro (b : Bool); cases b))
  simp only [BodyQ, aResults, aResult, upd, ↓reduceIte, Option.some.injEq, exists_eq_left']
  exact leaves_all ⟨rfl, rfl⟩

theorem grow_some (n : Nat) (hn : 0 < n) (hb : n ≤ 1000000) (h : AH) : CallW Try.prog 65 [.v (.slice none 0 0), .i n] h fun o h' => o = .ret (.arr h.length 0 0) ∧ h' = h ++ [.cells 62 8 (blanks 8 n)] := by
  have z0 : ¬ ((n : Int) < 0) := by omega
  have z1 : ((n : Int) > 0) := by omega
  have z2 : ((0 : Int) < n) := by omega
  have z3 : (0 : Int) ≤ n := by omega
  have w0 : IntKind.i64.wrap 0 = 0 := by decide
  have w1 : IntKind.i64.wrap (n : Int) = n := by rw [IntKind.wrap_i64]; omega
  have b1 : n ≤ maxLen := by simp only [maxLen]; omega
  have b2 : n * 112 ≤ 140737488355328 := by omega
  have e1 : Try.prog.underlying 63 = some (.slice 62) := by kernel_rfl
  have e2 : Try.prog.underlying 3 = some (.int .i64) := by kernel_rfl
  have e3 : appInfo Try.prog 63 3 = none := by kernel_rfl
  have hi : infoOk Try.prog 62 8 112 = true := by kernel_rfl
  have gz : ∀ h : AH, aAppendZ0 Try.prog 63 3 (n : Int) h = some (.arr h.length 0 n, h ++ [.cells 62 8 (blanks 8 n)]) := fun h => aAppendZ0_eq e1 e2 hi (by decide) hn b1 b2
  have ln := pv_lenNil Try.prog 63 3 (e := 62) (by kernel_rfl)
  refine callW_of_body Try.func65 rfl Try.call65 Try.ntmps65 (congrArg Array.toList Try.results65) (by simp) ?_
  repeat (first | ((first | (with_reducible refine codeW_seq_region (fun K E hK hE => ?_)) | (with_reducible refine codeW_region_k (fun K E hK hE => ?_))); simp -implicitDefEqProofs only [opsW_nil, opsW_cons, awanted, OpW, aop, undef, AS.ev, put_some, ofV_int, ofV_slice, upd_at, initTm, List.getD_cons_zero, List.getD_cons_succ, ↓reduceIte, Nat.reduceLT, Nat.reduceEqDiff, Nat.add_zero, and_self, aBin, aSlice, boundOf, aLen, aAppend, hget0, List.getElem?_cons_zero, Option.map_some, Option.map_none, pv_lss, pv_gtr, pv_sub, goInt, decide_true, decide_false, Int.toNat_zero, Int.natCast_zero, ei63, un63, aCap, aopR, Int.le_refl, Int.sub_zero, ln, z0, z1, z3, w0, w1, e3, gz, ite_self, hn, Int.le_refl]) | (with_reducible refine codeW_seq_k (fun K hK => ?_)) | (with_reducible refine codeW_block ?_) | (with_reducible refine codeW_ret ?_) | (with_reducible refine codeW_label ?_) | (with_reducible refine codeW_scope ?_) | (with_reducible refine codeW_skip ?_) | (with_reducible refine codeW_exit ?_) | (with_reducible refine to_then_normal ?_) | (with_reducible refine to_then_ret ?_) | (with_reducible refine to_then_exit ?_) | (with_reducible refine to_block_normal ?_) | (with_reducible refine to_block_ret ?_) | (with_reducible refine to_block_hit ?_) | (with_reducible refine to_block_miss rfl ?_) | ((with_reducible refine hK _ ?_); clear hK) | (clear hK; (with_reducible refine hK _ ?_); clear hK) | (clear hK; clear hK; (with_reducible refine hK _ ?_); clear hK) | (clear hK; clear hK; clear hK; (with_reducible refine hK _ ?_); clear hK) | (refine codeW_cond rfl ?_; simp only [↓reduceIte, Bool.false_eq_true]) | (intro (b : Bool); cases b))
  simp only [BodyQ, aResults, aResult, upd, ↓reduceIte, Option.some.injEq, exists_eq_left']
  exact leaves_all ⟨rfl, rfl⟩

/-- a row of one's own, of whatever room -/
def rowy (a : AV) (id len : Nat) : Prop := a = .arr id 0 len ∨ ∃ cap, len ≤ cap ∧ cap ≤ maxLen ∧ a = .row id 0 len cap
theorem codeW_rowy {P : Program} {N : Nat} {x : Code} {Q : AExit → AS → Prop} {tm : Nat → AV} {h : AH} (d : Nat) {id len ty s : Nat} {xs : List AV} (hb : h[id]? = some (.cells ty s xs)) (hd : rowy (tm d) id len)
    (H : ∀ cap, len ≤ cap → cap ≤ maxLen → CodeW P N x Q ⟨upd tm d (.row id 0 len cap), h⟩) : CodeW P N x Q ⟨tm, h⟩ := by
  rcases hd with hd | ⟨cap, h1, h2, hd⟩
  · exact codeW_arrRow d hb hd H
  · have := H cap h1 h2
    have e : upd tm d (.row id 0 len cap) = tm := by
      funext t
      simp only [upd]
      split
      · rename_i e; rw [e, hd]
      · rfl
    rwa [e] at this
theorem rowy_frz {h H : AH} {a : AV} {id len ty s : Nat} {xs : List AV} (hd : rowy a id len) (hi : h.length ≤ id) (hb : H[id]? = some (.cells ty s xs)) (hl : len = xs.length) (hx : ∀ a ∈ flat xs, Below h.length a) : Frz H h.length a (.sl s xs none) := by
  subst hl
  rcases hd with rfl | ⟨cap, _, _, rfl⟩
  · have := Frz.arr (h := H) (m := h.length) (lo := 0) (len := xs.length) hi hb (by omega) hx
    rwa [List.drop_zero, List.take_length] at this
  · have := Frz.row (h := H) (m := h.length) (lo := 0) (len := xs.length) (cap := cap) hi hb (by omega) hx
    rwa [List.drop_zero, List.take_length] at this

/-- the two rows of a row of rows -/
def rows2 (a b : List (T × T)) (i : Nat) : List (T × T) := if i = 0 then [] else if i = 1 then a else a ++ b

theorem concat_pure (a b : List (T × T)) (hs : a.length + b.length ≤ 1000000) : Pure Try.prog 54 [.sl 1 [.sl 8 (pavs a) none, .sl 8 (pavs b) none] none] (.sl 8 (pavs (a ++ b)) none) := by
  intro h
  have hg : ∀ j, j < 2 → [AV.sl 8 (pavs a) none, AV.sl 8 (pavs b) none][j]? = some (.sl 8 (pavs (if j = 0 then a else b)) none) := by
    intro j hj
    match j, hj with
    | 0, _ => rfl
    | 1, _ => rfl
  have hsum : ∀ j, j < 2 → (rows2 a b j).length + (if j = 0 then a else b).length = (rows2 a b (j + 1)).length ∧ rows2 a b j ++ (if j = 0 then a else b) = rows2 a b (j + 1) := by
    intro j hj
    match j, hj with
    | 0, _ => simp [rows2]
    | 1, _ => simp [rows2]
  have hle : ∀ j, j ≤ 2 → (rows2 a b j).length ≤ a.length + b.length := by
    intro j hj
    match j, hj with
    | 0, _ => simp [rows2]
    | 1, _ => simp [rows2]
    | 2, _ => simp [rows2]
  refine callW_of_body Try.func54 rfl Try.call54 Try.ntmps54 (congrArg Array.toList Try.results54) (by simp) ?_
  repeat (first | ((first | (with_reducible refine codeW_seq_region (fun K E hK hE => ?_)) | (with_reducible refine codeW_region_k (fun K E hK hE => ?_))); simp -implicitDefEqProofs only [opsW_nil, opsW_cons, awanted, OpW, aop, undef, AS.ev, put_some, ofV_int, ofV_slice, upd_at, initTm, List.getD_cons_zero, ↓reduceIte, List.length_cons, List.length_nil, Nat.reduceAdd, Nat.reduceLT, Nat.reduceEqDiff, Nat.zero_add, aLen, Option.map_some, goInt, un87]) | (with_reducible refine codeW_seq_k (fun K hK => ?_)) | (with_reducible refine codeW_block ?_) | (with_reducible refine codeW_ret ?_) | (with_reducible refine codeW_label ?_) | (with_reducible refine codeW_scope ?_) | (with_reducible refine codeW_skip ?_) | (with_reducible refine codeW_exit ?_) | (with_reducible refine to_then_normal ?_) | (with_reducible refine to_then_ret ?_) | (with_reducible refine to_then_exit ?_) | (with_reducible refine to_block_normal ?_) | (with_reducible refine to_block_ret ?_) | (with_reducible refine to_block_hit ?_) | (with_reducible refine to_block_miss rfl ?_) | ((with_reducible refine hK _ ?_); clear hK) | (clear hK; (with_reducible refine hK _ ?_); clear hK) | (clear hK; clear hK; (with_reducible refine hK _ ?_); clear hK) | (clear hK; clear hK; clear hK; (with_reducible refine hK _ ?_); clear hK) | (refine codeW_cond rfl ?_; simp only [↓reduceIte, Bool.false_eq_true]) | (intro (b : Bool); cases b))
  obtain ⟨I, hI⟩ : ∃ I : Nat → AS → Prop, I = fun m' s => ∃ (j : Nat), m' = 2 - j ∧ j ≤ 2 ∧ s.tm 0 = .sl 1 [.sl 8 (pavs a) none, .sl 8 (pavs b) none] none ∧ s.tm 2 = .v (.slice none 0 0) ∧ s.tm 3 = .i (rows2 a b j).length ∧ s.tm 9 = .sl 1 [.sl 8 (pavs a) none, .sl 8 (pavs b) none] none ∧ s.tm 10 = .i 2 ∧ s.tm 11 = .i j ∧ s.h = h := ⟨_, rfl⟩; refine codeW_loop I ?_ (m := 2) ?_
  · intro m' s hs; rw [hI] at hs; obtain ⟨tm, hp⟩ := s; dsimp only at hs; obtain ⟨j, rfl, hj, t0, t2, t3, t9, t10, t11, rfl⟩ := hs
    by_cases hlt : j < 2
    · have hlt' : (j : Int) < 2 := by omega
      have hlt2 : j < [AV.sl 8 (pavs a) none, AV.sl 8 (pavs b) none].length := hlt
      have hc := (hsum j hlt).1
      have hl1 := hle (j + 1) (by omega)
      have hw : IntKind.i64.wrap (((rows2 a b j).length : Int) + ((if j = 0 then a else b).length : Int)) = ((rows2 a b (j + 1)).length : Nat) := by rw [IntKind.wrap_i64]; omega
      have hn : ¬ (((rows2 a b (j + 1)).length : Int) < 0) := by omega
      repeat (first | ((first | (with_reducible refine codeW_seq_region (fun K E hK hE => ?_)) | (with_reducible refine codeW_region_k (fun K E hK hE => ?_))); simp -implicitDefEqProofs only [opsW_nil, opsW_cons, awanted, OpW, aop, AS.ev, put_some, ofV_int, upd_at, cells_sl, ↓reduceIte, List.length_cons, List.length_nil, Nat.reduceAdd, Nat.reduceLT, Nat.reduceEqDiff, Nat.zero_add, and_self, aLoad, aPart, aIndexAddr, aBin, aLen, List.getElem?_cons_zero, Option.map_some, pv_lss, pv_add, goInt, decide_true, decide_false, Int.toNat_natCast, Int.natCast_nonneg, Int.ofNat_lt, ti63, un63, ei87, t3, t9, t10, t11, hlt, hlt', hg j hlt, pavs_length, hw, hn]) | (with_reducible refine codeW_seq_k (fun K hK => ?_)) | (with_reducible refine codeW_block ?_) | (with_reducible refine codeW_ret ?_) | (with_reducible refine codeW_label ?_) | (with_reducible refine codeW_scope ?_) | (with_reducible refine codeW_skip ?_) | (with_reducible refine codeW_exit ?_) | (with_reducible refine to_then_normal ?_) | (with_reducible refine to_then_ret ?_) | (with_reducible refine to_then_exit ?_) | (with_reducible refine to_block_normal ?_) | (with_reducible refine to_block_ret ?_) | (with_reducible refine to_block_hit ?_) | (with_reducible refine to_block_miss rfl ?_) | ((with_reducible refine hK _ ?_); clear hK) | (clear hK; (with_reducible refine hK _ ?_); clear hK) | (clear hK; clear hK; (with_reducible refine hK _ ?_); clear hK) | (clear hK; clear hK; clear hK; (with_reducible refine hK _ ?_); clear hK) | (refine codeW_cond rfl ?_; simp only [↓reduceIte, Bool.false_eq_true]) | (intro (b : Bool); cases b))
      refine Onward.mk (m' := 2 - (j + 1)) (by omega) ?_
      rw [hI]
      refine ⟨j + 1, rfl, hlt, t0, t2, ?_, t9, t10, ?_, rfl⟩
      · simp only [upd, ↓reduceIte, Nat.reduceEqDiff]
      · simp only [upd, ↓reduceIte]
        rw [wrap_nat (by omega)]
    · have hjl : j = 2 := by omega
      have hlt' : ¬ ((j : Int) < 2) := by omega
      subst hjl
      by_cases hz : a.length + b.length = 0
      · have ha : a = [] := List.eq_nil_of_length_eq_zero (by omega)
        have hb : b = [] := List.eq_nil_of_length_eq_zero (by omega)
        subst ha; subst hb
        have e0 : ((rows2 [] [] 2).length : Int) = 0 := rfl
        rw [e0] at t3
        repeat (first | ((first | (with_reducible refine codeW_seq_region (fun K E hK hE => ?_)) | (with_reducible refine codeW_region_k (fun K E hK hE => ?_)) | (with_reducible refine FunW.ret (FunW.call (grow_zero _)) ?_)); simp -implicitDefEqProofs only [opsW_nil, opsW_cons, awanted, OpW, contW, aop, AS.ev, put_some, ofV_int, ofV_slice, upd_at, ↓reduceIte, List.length_cons, List.length_nil, Nat.reduceAdd, Nat.reduceLT, Nat.reduceEqDiff, Nat.zero_add, aBin, aLen, Option.map_some, List.map_cons, List.map_nil, pv_lss, goInt, decide_false, un87, t0, t3, t10, t11, hlt']) | (with_reducible refine codeW_seq_k (fun K hK => ?_)) | (with_reducible refine codeW_block ?_) | (with_reducible refine codeW_ret ?_) | (with_reducible refine codeW_label ?_) | (with_reducible refine codeW_scope ?_) | (with_reducible refine codeW_skip ?_) | (with_reducible refine codeW_exit ?_) | (with_reducible refine to_then_normal ?_) | (with_reducible refine to_then_ret ?_) | (with_reducible refine to_then_exit ?_) | (with_reducible refine to_block_normal ?_) | (with_reducible refine to_block_ret ?_) | (with_reducible refine to_block_hit ?_) | (with_reducible refine to_block_miss rfl ?_) | ((with_reducible refine hK _ ?_); clear hK) | (clear hK; (with_reducible refine hK _ ?_); clear hK) | (clear hK; clear hK; (with_reducible refine hK _ ?_); clear hK) | (clear hK; clear hK; clear hK; (with_reducible refine hK _ ?_); clear hK) | (refine codeW_cond rfl ?_; simp only [↓reduceIte, Bool.false_eq_true]) | (intro (b : Bool); cases b))
        refine codeW_token 6 62 8 rfl ?_
        obtain ⟨I, hI⟩ : ∃ I : Nat → AS → Prop, I = fun m' s => ∃ (j : Nat), m' = 2 - j ∧ j ≤ 2 ∧ s.tm 6 = .sl 8 [] (some hp.length) ∧ s.tm 25 = .sl 1 [.sl 8 (pavs []) none, .sl 8 (pavs []) none] none ∧ s.tm 26 = .i 2 ∧ s.tm 27 = .i j ∧ s.h = hp ++ [.grow 62 8 0] := ⟨_, rfl⟩; refine codeW_loop I ?_ (m := 2) ?_
        · intro m' s hs; rw [hI] at hs; obtain ⟨tm, hp⟩ := s; dsimp only at hs; obtain ⟨j, rfl, hj, t6, t25, t26, t27, rfl⟩ := hs
          by_cases hlt : j < 2
          · have hlt' : (j : Int) < 2 := by omega
            have hlt2 : j < [AV.sl 8 (pavs []) none, AV.sl 8 (pavs []) none].length := hlt
            have hg' := hg j hlt
            rw [ite_self, pavs_nil] at hg'
            have b1 : 0 ≤ maxLen := Nat.zero_le _
            repeat (first | ((first | (with_reducible refine codeW_seq_region (fun K E hK hE => ?_)) | (with_reducible refine codeW_region_k (fun K E hK hE => ?_))); simp -implicitDefEqProofs only [opsW_nil, opsW_cons, awanted, OpW, aop, AS.ev, put_some, ofV_int, upd_at, cells_sl, ↓reduceIte, List.length_cons, List.length_nil, Nat.reduceAdd, Nat.reduceLT, Nat.reduceEqDiff, Nat.zero_add, Nat.add_zero, and_self, aLoad, aPart, aIndexAddr, aBin, aAppend, srcOf, hget0, hset0, List.getElem?_cons_zero, List.set_cons_zero, Option.map_some, List.append_nil, pv_lss, pv_add, decide_true, Int.toNat_natCast, Int.natCast_nonneg, Int.ofNat_lt, Nat.zero_le, Nat.zero_mul, ti63, ai63, ei87, t6, t25, t26, t27, hlt, hlt', hg', pavs_nil, b1]) | (with_reducible refine codeW_seq_k (fun K hK => ?_)) | (with_reducible refine codeW_block ?_) | (with_reducible refine codeW_ret ?_) | (with_reducible refine codeW_label ?_) | (with_reducible refine codeW_scope ?_) | (with_reducible refine codeW_skip ?_) | (with_reducible refine codeW_exit ?_) | (with_reducible refine to_then_normal ?_) | (with_reducible refine to_then_ret ?_) | (with_reducible refine to_then_exit ?_) | (with_reducible refine to_block_normal ?_) | (with_reducible refine to_block_ret ?_) | (with_reducible refine to_block_hit ?_) | (with_reducible refine to_block_miss rfl ?_) | ((with_reducible refine hK _ ?_); clear hK) | (clear hK; (with_reducible refine hK _ ?_); clear hK) | (clear hK; clear hK; (with_reducible refine hK _ ?_); clear hK) | (clear hK; clear hK; clear hK; (with_reducible refine hK _ ?_); clear hK) | (refine codeW_cond rfl ?_; simp only [↓reduceIte]) | (intro (b : Bool); cases b))
            refine Onward.mk (m' := 2 - (j + 1)) (by omega) ?_
            rw [hI]
            refine ⟨j + 1, rfl, hlt, rfl, t25, t26, ?_, rfl⟩
            simp only [upd, ↓reduceIte]
            rw [wrap_nat (by omega)]
          · have hlt' : ¬ ((j : Int) < 2) := by omega
            repeat (first | ((first | (with_reducible refine codeW_seq_region (fun K E hK hE => ?_)) | (with_reducible refine codeW_region_k (fun K E hK hE => ?_))); simp -implicitDefEqProofs only [opsW_nil, opsW_cons, awanted, OpW, aop, AS.ev, put_some, upd_at, ↓reduceIte, Nat.reduceLT, Nat.reduceEqDiff, aBin, Option.map_some, pv_lss, decide_false, t6, t26, t27, hlt']) | (with_reducible refine codeW_seq_k (fun K hK => ?_)) | (with_reducible refine codeW_block ?_) | (with_reducible refine codeW_ret ?_) | (with_reducible refine codeW_label ?_) | (with_reducible refine codeW_scope ?_) | (with_reducible refine codeW_skip ?_) | (with_reducible refine codeW_exit ?_) | (with_reducible refine to_then_normal ?_) | (with_reducible refine to_then_ret ?_) | (with_reducible refine to_then_exit ?_) | (with_reducible refine to_block_normal ?_) | (with_reducible refine to_block_ret ?_) | (with_reducible refine to_block_hit ?_) | (with_reducible refine to_block_miss rfl ?_) | ((with_reducible refine hK _ ?_); clear hK) | (clear hK; (with_reducible refine hK _ ?_); clear hK) | (clear hK; clear hK; (with_reducible refine hK _ ?_); clear hK) | (clear hK; clear hK; clear hK; (with_reducible refine hK _ ?_); clear hK) | (refine codeW_cond rfl ?_; simp only [↓reduceIte, Bool.false_eq_true]) | (intro (b : Bool); cases b))
            simp only [BodyQ, aResults, aResult, upd, ↓reduceIte, Option.some.injEq, exists_eq_left']; first | refine leaves_end (htake _ _) (.tok (by simp [flat])) ⟨rfl, rfl⟩ | refine leaves_end List.take_length (.tok (by simp [flat])) ⟨rfl, rfl⟩
        · rw [hI]
          exact ⟨0, by omega, Nat.zero_le _, rfl, rfl, rfl, rfl, rfl⟩
      · have hpos : 0 < (rows2 a b 2).length := by
          have : (rows2 a b 2).length = a.length + b.length := by simp [rows2]
          omega
        have hl2 := hle 2 (by omega)
        repeat (first | ((first | (with_reducible refine codeW_seq_region (fun K E hK hE => ?_)) | (with_reducible refine codeW_region_k (fun K E hK hE => ?_)) | (with_reducible refine FunW.ret (FunW.call (grow_some _ hpos (by omega) _)) ?_)); simp -implicitDefEqProofs only [opsW_nil, opsW_cons, awanted, OpW, contW, aop, AS.ev, put_some, ofV_int, ofV_slice, upd_at, ↓reduceIte, List.length_cons, List.length_nil, Nat.reduceAdd, Nat.reduceLT, Nat.reduceEqDiff, Nat.zero_add, aBin, aLen, Option.map_some, List.map_cons, List.map_nil, pv_lss, goInt, decide_false, un87, t0, t3, t10, t11, hlt']) | (with_reducible refine codeW_seq_k (fun K hK => ?_)) | (with_reducible refine codeW_block ?_) | (with_reducible refine codeW_ret ?_) | (with_reducible refine codeW_label ?_) | (with_reducible refine codeW_scope ?_) | (with_reducible refine codeW_skip ?_) | (with_reducible refine codeW_exit ?_) | (with_reducible refine to_then_normal ?_) | (with_reducible refine to_then_ret ?_) | (with_reducible refine to_then_exit ?_) | (with_reducible refine to_block_normal ?_) | (with_reducible refine to_block_ret ?_) | (with_reducible refine to_block_hit ?_) | (with_reducible refine to_block_miss rfl ?_) | ((with_reducible refine hK _ ?_); clear hK) | (clear hK; (with_reducible refine hK _ ?_); clear hK) | (clear hK; clear hK; (with_reducible refine hK _ ?_); clear hK) | (clear hK; clear hK; clear hK; (with_reducible refine hK _ ?_); clear hK) | (refine codeW_cond rfl ?_; simp only [↓reduceIte, Bool.false_eq_true]) | (intro (b : Bool); cases b))
        refine codeW_clip hp.length (by rw [List.getElem?_append_right (Nat.le_refl _), Nat.sub_self]; rfl) ?_
        obtain ⟨I, hI⟩ : ∃ I : Nat → AS → Prop, I = fun m' s => ∃ (j i : Nat) (L : AH), m' = 2 - j ∧ j ≤ 2 ∧ L[i]? = some (.cells 62 8 (pavs (rows2 a b j))) ∧ rowy (s.tm 6) (hp.length + i) (rows2 a b j).length ∧ s.tm 25 = .sl 1 [.sl 8 (pavs a) none, .sl 8 (pavs b) none] none ∧ s.tm 26 = .i 2 ∧ s.tm 27 = .i j ∧ s.h = hp ++ L := ⟨_, rfl⟩; refine codeW_loop I ?_ (m := 2) ?_
        · intro m' s hs; rw [hI] at hs; obtain ⟨tm, hp⟩ := s; dsimp only at hs; obtain ⟨j, i, L, rfl, hj, hL, t6, t25, t26, t27, rfl⟩ := hs
          by_cases hlt : j < 2
          · have hlt' : (j : Int) < 2 := by omega
            have hlt2 : j < [AV.sl 8 (pavs a) none, AV.sl 8 (pavs b) none].length := hlt
            have hb6 : (hp ++ L)[hp.length + i]? = some (.cells 62 8 (pavs (rows2 a b j))) := by rw [hget]; exact hL
            have hi := lt_of_get hL
            have hg' := hg j hlt
            have hc := (hsum j hlt).1
            have hc2 := (hsum j hlt).2
            have hl1 := hle (j + 1) (by omega)
            generalize hys : (if j = 0 then a else b) = ys at *
            have b1 : (pavs (rows2 a b j)).length + (pavs ys).length ≤ maxLen := by simp only [maxLen, pavs_length]; omega
            have b2 : ((pavs (rows2 a b j)).length + (pavs ys).length) * 112 ≤ 140737488355328 := by simp only [pavs_length]; omega
            refine codeW_rowy 6 hb6 t6 (fun cap hc3 hc4 => ?_)
            have b3 : (rows2 a b j).length = (pavs (rows2 a b j)).length := (pavs_length _).symm
            by_cases he : ys = []
            · have he' : (pavs ys).isEmpty = true := by subst he; rfl
              have hr : rows2 a b (j + 1) = rows2 a b j := by rw [← hc2, he, List.append_nil]
              repeat (first | ((first | (with_reducible refine codeW_seq_region (fun K E hK hE => ?_)) | (with_reducible refine codeW_region_k (fun K E hK hE => ?_))); simp -implicitDefEqProofs only [opsW_nil, opsW_cons, awanted, OpW, aop, AS.ev, put_some, ofV_int, cells_sl, ↓reduceIte, List.length_cons, List.length_nil, Nat.reduceAdd, Nat.reduceLT, Nat.reduceEqDiff, Nat.zero_add, and_self, aLoad, aPart, aIndexAddr, aBin, aAppend, srcOf, hget, List.getElem?_cons_zero, Option.map_some, pv_lss, pv_add, decide_true, Int.toNat_natCast, Int.natCast_nonneg, Int.ofNat_lt, ti63, ai63, ei87, aopR, aAppendR, t25, t26, t27, hlt, hlt', hg', hL, he', upd]) | (with_reducible refine codeW_seq_k (fun K hK => ?_)) | (with_reducible refine codeW_block ?_) | (with_reducible refine codeW_ret ?_) | (with_reducible refine codeW_label ?_) | (with_reducible refine codeW_scope ?_) | (with_reducible refine codeW_skip ?_) | (with_reducible refine codeW_exit ?_) | (with_reducible refine to_then_normal ?_) | (with_reducible refine to_then_ret ?_) | (with_reducible refine to_then_exit ?_) | (with_reducible refine to_block_normal ?_) | (with_reducible refine to_block_ret ?_) | (with_reducible refine to_block_hit ?_) | (with_reducible refine to_block_miss rfl ?_) | ((with_reducible refine hK _ ?_); clear hK) | (clear hK; (with_reducible refine hK _ ?_); clear hK) | (clear hK; clear hK; (with_reducible refine hK _ ?_); clear hK) | (clear hK; clear hK; clear hK; (with_reducible refine hK _ ?_); clear hK) | (refine codeW_cond rfl ?_; simp only [↓reduceIte]) | (intro (b : Bool); cases b))
              refine Onward.mk (m' := 2 - (j + 1)) (by omega) ?_
              rw [hI]
              refine ⟨j + 1, i, L, rfl, hlt, by rw [hr]; exact hL, ?_, t25, t26, ?_, rfl⟩
              · rw [hr]
                exact .inr ⟨cap, hc3, hc4, rfl⟩
              · simp only [upd, ↓reduceIte]
                rw [wrap_nat (by omega)]
            · have he' : (pavs ys).isEmpty = false := by
                cases ys with
                | nil => exact absurd rfl he
                | cons y ys => rfl
              have hx : pavs (rows2 a b j) ++ pavs ys = pavs (rows2 a b (j + 1)) := by rw [← pavs_append, hc2]
              have hn : (pavs (rows2 a b j)).length + (pavs ys).length = (rows2 a b (j + 1)).length := by rw [pavs_length, pavs_length]; exact hc
              by_cases hf : (pavs (rows2 a b j)).length + (pavs ys).length ≤ cap
              · repeat (first | ((first | (with_reducible refine codeW_seq_region (fun K E hK hE => ?_)) | (with_reducible refine codeW_region_k (fun K E hK hE => ?_))); simp -implicitDefEqProofs only [opsW_nil, opsW_cons, awanted, OpW, aop, AS.ev, put_some, ofV_int, cells_sl, ↓reduceIte, List.length_cons, List.length_nil, Nat.reduceAdd, Nat.reduceLT, Nat.reduceEqDiff, Nat.zero_add, and_self, aLoad, aPart, aIndexAddr, aBin, aAppend, srcOf, hget, hset, List.getElem?_cons_zero, Option.map_some, pv_lss, pv_add, decide_true, Int.toNat_natCast, Int.natCast_nonneg, Int.ofNat_lt, Bool.false_eq_true, ti63, ai63, ei87, aopR, aAppendR, t25, t26, t27, hlt, hlt', hg', hL, he', upd, b1, b2, b3, hf]) | (with_reducible refine codeW_seq_k (fun K hK => ?_)) | (with_reducible refine codeW_block ?_) | (with_reducible refine codeW_ret ?_) | (with_reducible refine codeW_label ?_) | (with_reducible refine codeW_scope ?_) | (with_reducible refine codeW_skip ?_) | (with_reducible refine codeW_exit ?_) | (with_reducible refine to_then_normal ?_) | (with_reducible refine to_then_ret ?_) | (with_reducible refine to_then_exit ?_) | (with_reducible refine to_block_normal ?_) | (with_reducible refine to_block_ret ?_) | (with_reducible refine to_block_hit ?_) | (with_reducible refine to_block_miss rfl ?_) | ((with_reducible refine hK _ ?_); clear hK) | (clear hK; (with_reducible refine hK _ ?_); clear hK) | (clear hK; clear hK; (with_reducible refine hK _ ?_); clear hK) | (clear hK; clear hK; clear hK; (with_reducible refine hK _ ?_); clear hK) | (refine codeW_cond rfl ?_; simp only [↓reduceIte]) | (intro (b : Bool); cases b))
                refine Onward.mk (m' := 2 - (j + 1)) (by omega) ?_
                rw [hI]
                refine ⟨j + 1, i, L.set i (.cells 62 8 (pavs (rows2 a b (j + 1)))), rfl, hlt, List.getElem?_set_self hi, ?_, t25, t26, ?_, by simp only [hx]⟩
                · rw [← hn]
                  exact .inr ⟨cap, hf, hc4, rfl⟩
                · simp only [upd, ↓reduceIte]
                  rw [wrap_nat (by omega)]
              · repeat (first | ((first | (with_reducible refine codeW_seq_region (fun K E hK hE => ?_)) | (with_reducible refine codeW_region_k (fun K E hK hE => ?_))); simp -implicitDefEqProofs only [opsW_nil, opsW_cons, awanted, OpW, aop, AS.ev, put_some, ofV_int, cells_sl, ↓reduceIte, List.length_cons, List.length_nil, Nat.reduceAdd, Nat.reduceLT, Nat.reduceEqDiff, Nat.zero_add, and_self, aLoad, aPart, aIndexAddr, aBin, aAppend, srcOf, hget, hlen, happ, List.getElem?_cons_zero, Option.map_some, pv_lss, pv_add, decide_true, Int.toNat_natCast, Int.natCast_nonneg, Int.ofNat_lt, Bool.false_eq_true, ti63, ai63, ei87, aopR, aAppendR, t25, t26, t27, hlt, hlt', hg', hL, he', upd, b1, b2, b3, hf]) | (with_reducible refine codeW_seq_k (fun K hK => ?_)) | (with_reducible refine codeW_block ?_) | (with_reducible refine codeW_ret ?_) | (with_reducible refine codeW_label ?_) | (with_reducible refine codeW_scope ?_) | (with_reducible refine codeW_skip ?_) | (with_reducible refine codeW_exit ?_) | (with_reducible refine to_then_normal ?_) | (with_reducible refine to_then_ret ?_) | (with_reducible refine to_then_exit ?_) | (with_reducible refine to_block_normal ?_) | (with_reducible refine to_block_ret ?_) | (with_reducible refine to_block_hit ?_) | (with_reducible refine to_block_miss rfl ?_) | ((with_reducible refine hK _ ?_); clear hK) | (clear hK; (with_reducible refine hK _ ?_); clear hK) | (clear hK; clear hK; (with_reducible refine hK _ ?_); clear hK) | (clear hK; clear hK; clear hK; (with_reducible refine hK _ ?_); clear hK) | (refine codeW_cond rfl ?_; simp only [↓reduceIte]) | (intro (b : Bool); cases b))
                refine Onward.mk (m' := 2 - (j + 1)) (by omega) ?_
                rw [hI]
                refine ⟨j + 1, L.length, L ++ [.cells 62 8 (pavs (rows2 a b (j + 1)))], rfl, hlt, List.getElem?_concat_length, ?_, t25, t26, ?_, by simp only [hx]⟩
                · rw [← hn]
                  exact .inl rfl
                · simp only [upd, ↓reduceIte]
                  rw [wrap_nat (by omega)]
          · have hlt' : ¬ ((j : Int) < 2) := by omega
            have hj2 : j = 2 := by omega
            subst hj2
            repeat (first | ((first | (with_reducible refine codeW_seq_region (fun K E hK hE => ?_)) | (with_reducible refine codeW_region_k (fun K E hK hE => ?_))); simp -implicitDefEqProofs only [opsW_nil, opsW_cons, awanted, OpW, aop, AS.ev, put_some, upd_at, ↓reduceIte, Nat.reduceLT, Nat.reduceEqDiff, aBin, Option.map_some, pv_lss, decide_false, t26, t27, hlt']) | (with_reducible refine codeW_seq_k (fun K hK => ?_)) | (with_reducible refine codeW_block ?_) | (with_reducible refine codeW_ret ?_) | (with_reducible refine codeW_label ?_) | (with_reducible refine codeW_scope ?_) | (with_reducible refine codeW_skip ?_) | (with_reducible refine codeW_exit ?_) | (with_reducible refine to_then_normal ?_) | (with_reducible refine to_then_ret ?_) | (with_reducible refine to_then_exit ?_) | (with_reducible refine to_block_normal ?_) | (with_reducible refine to_block_ret ?_) | (with_reducible refine to_block_hit ?_) | (with_reducible refine to_block_miss rfl ?_) | ((with_reducible refine hK _ ?_); clear hK) | (clear hK; (with_reducible refine hK _ ?_); clear hK) | (clear hK; clear hK; (with_reducible refine hK _ ?_); clear hK) | (clear hK; clear hK; clear hK; (with_reducible refine hK _ ?_); clear hK) | (refine codeW_cond rfl ?_; simp only [↓reduceIte, Bool.false_eq_true]) | (intro (b : Bool); cases b))
            simp only [BodyQ, aResults, aResult, upd, ↓reduceIte, Option.some.injEq, exists_eq_left']
            have hx : rows2 a b 2 = a ++ b := by simp [rows2]
            rw [hx] at hL t6
            exact leaves_end (htake _ _) (rowy_frz t6 (by omega) (by rw [hget]; exact hL) (pavs_length _).symm (pavs_flat _ _)) ⟨rfl, rfl⟩
        · rw [hI]
          exact ⟨0, 0, [.cells 62 8 []], by omega, Nat.zero_le _, rfl, .inl rfl, rfl, rfl, rfl, by simp⟩
  · rw [hI]
    exact ⟨0, by omega, Nat.zero_le _, rfl, rfl, rfl, rfl, rfl, rfl, rfl⟩
end Go.Proofs.Ytpfcnfcnljnnlaa.Ab
