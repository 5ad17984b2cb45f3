/-
  The budget of the specification.
-/
import Derived.Test.YtpfcnfcnljnnlaaAbMk
set_option linter.unusedSimpArgs false
set_option linter.unusedVariables false
set_option maxHeartbeats 4000000
set_option maxRecDepth 4000
namespace Go.Proofs.Ytpfcnfcnljnnlaa.Ab
open Go.Proofs

theorem pv_quo8 (P : Program) (t : TypeId) (xo yo : Operand) (a : Int) : pv P (do eqGuard .quo t xo yo (.int .i64 a) (.int .i64 8); binOp .quo t (.int .i64 a) (.int .i64 8)) = some (.int .i64 (IntKind.i64.wrap (a.tdiv 8))) := rfl

/-! the budget of the specification -/
def weighs (w : List T → Int → Int) : List T → Int → Int
  | [], n => n
  | t :: l, n => if n < 0 then n else weighs w l (w t.args (n - 1 - (t.name.size / 8 : Nat)))
def weigh : Nat → List T → Int → Int
  | 0, _, _ => -1
  | d + 1, l, n => if (l.length : Int) > n then -1 else weighs (weigh d) l n

theorem weighs_bound (w : List T → Int → Int) (hw : ∀ l n, -1 ≤ w l n ∧ (w l n ≤ n ∨ w l n = -1)) : ∀ (l : List T) (n : Int), -1 ≤ n → -1 ≤ weighs w l n ∧ weighs w l n ≤ n
  | [], n, h => ⟨h, Int.le_refl _⟩
  | t :: l, n, h => by
    simp only [weighs]
    split
    · exact ⟨h, Int.le_refl _⟩
    · obtain ⟨h1, h2⟩ := hw t.args (n - 1 - (t.name.size / 8 : Nat))
      obtain ⟨h3, h4⟩ := weighs_bound w hw l _ h1
      refine ⟨h3, ?_⟩
      omega
theorem weigh_bound : ∀ (d : Nat) (l : List T) (n : Int), -1 ≤ weigh d l n ∧ (weigh d l n ≤ n ∨ weigh d l n = -1)
  | 0, l, n => ⟨Int.le_refl _, .inr rfl⟩
  | d + 1, l, n => by
    simp only [weigh]
    split
    · exact ⟨Int.le_refl _, .inr rfl⟩
    · obtain ⟨h1, h2⟩ := weighs_bound (weigh d) (weigh_bound d) l n (by omega)
      exact ⟨h1, .inl h2⟩

theorem weighs_nds (w : List T → Int → Int) (hb : ∀ l n, -1 ≤ w l n) (hw : ∀ l n, 0 ≤ w l n → (ndsL l : Int) + w l n ≤ n) : ∀ (l : List T) (n : Int), 0 ≤ weighs w l n → (ndsL l : Int) + weighs w l n ≤ n
  | [], n, h => by simp [weighs, ndsL]
  | t :: l, n, h => by
    simp only [weighs] at h ⊢
    split at h
    · omega
    · rename_i hn
      rw [if_neg hn]
      have h1 := weighs_nds w hb hw l _ h
      have h2 := hw t.args (n - 1 - (t.name.size / 8 : Nat)) (by
        rcases Int.lt_or_le (w t.args (n - 1 - (t.name.size / 8 : Nat))) 0 with h0 | h0
        · exfalso
          have : weighs w l (w t.args (n - 1 - (t.name.size / 8 : Nat))) = w t.args (n - 1 - (t.name.size / 8 : Nat)) := by
            cases l with
            | nil => rfl
            | cons a l => simp only [weighs, if_pos h0]
          omega
        · exact h0)
      have h3 := T.nds_eq t
      simp only [ndsL]
      omega
theorem weigh_nds : ∀ (d : Nat) (l : List T) (n : Int), 0 ≤ weigh d l n → (ndsL l : Int) + weigh d l n ≤ n
  | 0, l, n, h => by simp only [weigh] at h; omega
  | d + 1, l, n, h => by
    simp only [weigh] at h ⊢
    split at h
    · omega
    · rename_i hn
      rw [if_neg hn]
      exact weighs_nds (weigh d) (fun l n => (weigh_bound d l n).1) (weigh_nds d) l n h

theorem weighs_append (w : List T → Int → Int) : ∀ (l r : List T) (n : Int), weighs w (l ++ r) n = weighs w r (weighs w l n) 
  | [], r, n => rfl
  | t :: l, r, n => by
    simp only [List.cons_append, weighs]
    split
    · rename_i h
      cases r with
      | nil => rfl
      | cons a r => simp only [weighs, if_pos h]
    · exact weighs_append w l r _
theorem weighs_stop (w : List T → Int → Int) {r : List T} {n : Int} (h : n < 0) : weighs w r n = n := by
  cases r with
  | nil => rfl
  | cons a r => simp only [weighs, if_pos h]

theorem weigh_pure : ∀ (d : Nat), d ≤ 64 → ∀ (l : List T) (n : Int), oks l → -2305843009213693952 ≤ n → n ≤ 1000000 → Pure Try.prog 31 [.sl 4 (avs l) none, .i n, .i d] (.i (weigh d l n))
  | 0, _, l, n, ho, hn1, hn2 => by
    intro h
    refine callW_of_body Try.func31 rfl Try.call31 Try.ntmps31 (congrArg Array.toList Try.results31) (by simp) ?_
    repeat (first | ((first | (with_reducible refine codeW_seq_region (fun K E hK hE => ?_)) | (with_reducible refine codeW_region_k (fun K E hK hE => ?_)) | (refine codeW_seq_any (id := 6) [(0, 0), (1, 0), (2, 0), (3, 0), (4, 0), (5, 0), (6, 0), (7, 0), (8, 0), (9, 0), (10, 0), (11, 0), (12, 0), (13, 0), (14, 0), (15, 0), (16, 0), (17, 1), (18, 0)] mixed (by kernel_rfl) (fun K hK => ?_)) | (refine codeW_region_any (id := 6) [(0, 0), (1, 0), (2, 0), (3, 0), (4, 0), (5, 0), (6, 0), (7, 0), (8, 0), (9, 0), (10, 0), (11, 0), (12, 0), (13, 0), (14, 0), (15, 0), (16, 0), (17, 1), (18, 0)] mixed (by kernel_rfl) (fun K hK => ?_))); simp -implicitDefEqProofs only [opsW_nil, opsW_cons, awanted, OpW, aop, undef, AS.ev, put_some, ofV_int, ofV_bool, upd_at, initTm, List.getD_cons_zero, List.getD_cons_succ, Bool.not_true, ↓reduceIte, Nat.reduceLT, Nat.reduceEqDiff, aBin, List.getElem?_cons_zero, List.getElem?_cons_succ, Option.map_some, Option.bind_some, List.getElem?_toArray, pv_eql, beq_self_eq_true, Int.natCast_zero, beq_false]) | (with_reducible refine codeW_seq_k (fun K hK => ?_)) | (with_reducible refine codeW_block ?_) | (with_reducible refine codeW_ret ?_) | (with_reducible refine codeW_label ?_) | (with_reducible refine codeW_scope ?_) | (with_reducible refine codeW_skip ?_) | (with_reducible refine codeW_exit ?_) | (with_reducible refine to_then_normal ?_) | (with_reducible refine to_then_ret ?_) | (with_reducible refine to_then_exit ?_) | (with_reducible refine to_block_normal ?_) | (with_reducible refine to_block_ret ?_) | (with_reducible refine to_block_hit ?_) | (with_reducible refine to_block_miss rfl ?_) | ((with_reducible refine hK _ ?_); clear hK) | (clear hK; (with_reducible refine hK _ ?_); clear hK) | (clear hK; clear hK; (with_reducible refine hK _ ?_); clear hK) | (clear hK; clear hK; clear hK; (with_reducible refine hK _ ?_); clear hK) | (refine codeW_cond rfl ?_; simp only [↓reduceIte]) | (intro (b : Bool); cases b))
    simp only [BodyQ, aResults, aResult, upd, ↓reduceIte, Option.some.injEq, exists_eq_left']; first | refine leaves_end (htake _ _) (.keep (.v _)) ⟨rfl, rfl⟩ | refine leaves_end List.take_length (.keep (.v _)) ⟨rfl, rfl⟩
  | d + 1, hd, l, n, ho, hn1, hn2 => by
    intro h
    have hd0 : (((d + 1 : Nat) : Int) == 0) = false := by rw [beq_eq_false_iff_ne]; omega
    have hwd : IntKind.i64.wrap (((d + 1 : Nat) : Int) - 1) = (d : Int) := by rw [wrap_id (by omega)]; omega
    by_cases hc : (l.length : Int) > n
    · refine callW_of_body Try.func31 rfl Try.call31 Try.ntmps31 (congrArg Array.toList Try.results31) (by simp) ?_
      repeat (first | ((first | (with_reducible refine codeW_seq_region (fun K E hK hE => ?_)) | (with_reducible refine codeW_region_k (fun K E hK hE => ?_)) | (refine codeW_seq_any (id := 6) [(0, 0), (1, 0), (2, 0), (3, 0), (4, 0), (5, 0), (6, 0), (7, 0), (8, 0), (9, 0), (10, 0), (11, 0), (12, 0), (13, 0), (14, 0), (15, 0), (16, 0), (17, 1), (18, 0)] mixed (by kernel_rfl) (fun K hK => ?_)) | (refine codeW_region_any (id := 6) [(0, 0), (1, 0), (2, 0), (3, 0), (4, 0), (5, 0), (6, 0), (7, 0), (8, 0), (9, 0), (10, 0), (11, 0), (12, 0), (13, 0), (14, 0), (15, 0), (16, 0), (17, 1), (18, 0)] mixed (by kernel_rfl) (fun K hK => ?_))); simp -implicitDefEqProofs only [opsW_nil, opsW_cons, awanted, OpW, aop, undef, AS.ev, put_some, ofV_int, upd_at, initTm, List.getD_cons_zero, List.getD_cons_succ, ↓reduceIte, Nat.reduceLT, Nat.reduceEqDiff, aBin, aLen, List.getElem?_cons_zero, List.getElem?_cons_succ, Option.map_some, Option.bind_some, List.getElem?_toArray, pv_eql, pv_gtr, goInt, decide_true, beq_self_eq_true, Bool.false_eq_true, avs_length, un23, hd0, hc]) | (with_reducible refine codeW_seq_k (fun K hK => ?_)) | (with_reducible refine codeW_block ?_) | (with_reducible refine codeW_ret ?_) | (with_reducible refine codeW_label ?_) | (with_reducible refine codeW_scope ?_) | (with_reducible refine codeW_skip ?_) | (with_reducible refine codeW_exit ?_) | (with_reducible refine to_then_normal ?_) | (with_reducible refine to_then_ret ?_) | (with_reducible refine to_then_exit ?_) | (with_reducible refine to_block_normal ?_) | (with_reducible refine to_block_ret ?_) | (with_reducible refine to_block_hit ?_) | (with_reducible refine to_block_miss rfl ?_) | ((with_reducible refine hK _ ?_); clear hK) | (clear hK; (with_reducible refine hK _ ?_); clear hK) | (clear hK; clear hK; (with_reducible refine hK _ ?_); clear hK) | (clear hK; clear hK; clear hK; (with_reducible refine hK _ ?_); clear hK) | (refine codeW_cond rfl ?_; simp only [↓reduceIte]) | (intro (b : Bool); cases b))
      simp only [BodyQ, aResults, aResult, upd, ↓reduceIte, Option.some.injEq, exists_eq_left']; first | refine leaves_end (htake _ _) (.keep (.v _)) ⟨by simp only [weigh, if_pos hc], rfl⟩ | refine leaves_end List.take_length (.keep (.v _)) ⟨by simp only [weigh, if_pos hc], rfl⟩
    · have hw : weigh (d + 1) l n = weighs (weigh d) l n := by simp only [weigh, if_neg hc]
      refine callW_of_body Try.func31 rfl Try.call31 Try.ntmps31 (congrArg Array.toList Try.results31) (by simp) ?_
      repeat (first | ((first | (with_reducible refine codeW_seq_region (fun K E hK hE => ?_)) | (with_reducible refine codeW_region_k (fun K E hK hE => ?_)) | (refine codeW_seq_any (id := 6) [(0, 0), (1, 0), (2, 0), (3, 0), (4, 0), (5, 0), (6, 0), (7, 0), (8, 0), (9, 0), (10, 0), (11, 0), (12, 0), (13, 0), (14, 0), (15, 0), (16, 0), (17, 1), (18, 0)] mixed (by kernel_rfl) (fun K hK => ?_)) | (refine codeW_region_any (id := 6) [(0, 0), (1, 0), (2, 0), (3, 0), (4, 0), (5, 0), (6, 0), (7, 0), (8, 0), (9, 0), (10, 0), (11, 0), (12, 0), (13, 0), (14, 0), (15, 0), (16, 0), (17, 1), (18, 0)] mixed (by kernel_rfl) (fun K hK => ?_))); simp -implicitDefEqProofs only [opsW_nil, opsW_cons, awanted, OpW, aop, undef, AS.ev, put_some, ofV_int, upd_at, initTm, List.getD_cons_zero, List.getD_cons_succ, ↓reduceIte, Nat.reduceLT, Nat.reduceEqDiff, aBin, aLen, List.getElem?_cons_zero, List.getElem?_cons_succ, Option.map_some, Option.bind_some, List.getElem?_toArray, pv_eql, pv_gtr, goInt, decide_false, beq_self_eq_true, Bool.false_eq_true, avs_length, un23, hd0, hc]) | (with_reducible refine codeW_seq_k (fun K hK => ?_)) | (with_reducible refine codeW_block ?_) | (with_reducible refine codeW_ret ?_) | (with_reducible refine codeW_label ?_) | (with_reducible refine codeW_scope ?_) | (with_reducible refine codeW_skip ?_) | (with_reducible refine codeW_exit ?_) | (with_reducible refine to_then_normal ?_) | (with_reducible refine to_then_ret ?_) | (with_reducible refine to_then_exit ?_) | (with_reducible refine to_block_normal ?_) | (with_reducible refine to_block_ret ?_) | (with_reducible refine to_block_hit ?_) | (with_reducible refine to_block_miss rfl ?_) | ((with_reducible refine hK _ ?_); clear hK) | (clear hK; (with_reducible refine hK _ ?_); clear hK) | (clear hK; clear hK; (with_reducible refine hK _ ?_); clear hK) | (clear hK; clear hK; clear hK; (with_reducible refine hK _ ?_); clear hK) | (refine codeW_cond rfl ?_; simp only [↓reduceIte, Bool.false_eq_true]) | (intro (b : Bool); cases b))
      obtain ⟨I, hI⟩ : ∃ I : Nat → AS → Prop, I = fun m' s => ∃ (j : Nat) (a : Int), m' = l.length - j ∧ j ≤ l.length ∧ -1 ≤ a ∧ a ≤ n ∧ weighs (weigh d) l n = weighs (weigh d) (l.drop j) a ∧ s.tm 0 = .sl 4 (avs l) none ∧ s.tm 1 = .i a ∧ s.tm 2 = .i ((d + 1 : Nat) : Int) ∧ s.tm 7 = .i j ∧ s.h = h := ⟨_, rfl⟩; refine codeW_loop I ?_ (m := l.length) ?_
      · intro m' s hs; rw [hI] at hs; obtain ⟨tm, hp⟩ := s; dsimp only at hs; obtain ⟨j, a, rfl, hj, ha1, ha2, he, t0, t1, t2, t7, rfl⟩ := hs
        by_cases hlt : j < l.length
        · rw [List.drop_eq_getElem_cons hlt] at he
          by_cases ha : a ≥ 0
          · obtain ⟨o1, o2, o3, o4⟩ := (T.ok_eq _).1 (oks_get hlt ho)
            simp only [weighs, if_neg (show ¬ a < 0 by omega)] at he
            have hq : ((l[j].name.size : Int)).tdiv 8 = ((l[j].name.size / 8 : Nat) : Int) := by
              rw [Int.tdiv_eq_ediv_of_nonneg (by omega)]; omega
            have hw1 : IntKind.i64.wrap (a - 1) = a - 1 := wrap_id (by omega)
            have hw2 : IntKind.i64.wrap (((l[j].name.size / 8 : Nat) : Int)) = ((l[j].name.size / 8 : Nat) : Int) := wrap_id (by omega)
            have hw3 : IntKind.i64.wrap (a - 1 - ((l[j].name.size / 8 : Nat) : Int)) = a - 1 - ((l[j].name.size / 8 : Nat) : Int) := wrap_id (by omega)
            have hr := weigh_pure d (by omega) l[j].args (a - 1 - ((l[j].name.size / 8 : Nat) : Int)) o4 (by omega) (by omega)
            have hrb := weigh_bound d l[j].args (a - 1 - ((l[j].name.size / 8 : Nat) : Int))
            have hsl := fun s => pv_slen Try.prog 9 3 (by kernel_rfl) s
            repeat (first | ((first | (with_reducible refine codeW_seq_region (fun K E hK hE => ?_)) | (with_reducible refine codeW_region_k (fun K E hK hE => ?_)) | (with_reducible refine funW_pure hr ?_) | (with_reducible refine callA_pure hr ?_) | (refine codeW_seq_any (id := 6) [(0, 0), (1, 0), (2, 0), (3, 0), (4, 0), (5, 0), (6, 0), (7, 0), (8, 0), (9, 0), (10, 0), (11, 0), (12, 0), (13, 0), (14, 0), (15, 0), (16, 0), (17, 1), (18, 0)] mixed (by kernel_rfl) (fun K hK => ?_)) | (refine codeW_region_any (id := 6) [(0, 0), (1, 0), (2, 0), (3, 0), (4, 0), (5, 0), (6, 0), (7, 0), (8, 0), (9, 0), (10, 0), (11, 0), (12, 0), (13, 0), (14, 0), (15, 0), (16, 0), (17, 1), (18, 0)] mixed (by kernel_rfl) (fun K hK => ?_))); simp -implicitDefEqProofs only [anyW_nil, anyW_cons, anyO_eq, opsW_nil, opsW_cons, awanted, OpW, aop, AS.ev, put_some, ofV_int, upd_at, ↓reduceIte, Nat.reduceLT, Nat.reduceLeDiff, Nat.reduceEqDiff, Nat.zero_add, and_self, aFieldAddr, aLoad, aPart, aIndexAddr, aBin, aLen, List.getElem?_cons_zero, List.getElem?_cons_succ, Option.map_some, Option.bind_some, List.getElem?_toArray, List.map_cons, List.map_nil, pv_lss, pv_geq, pv_add, pv_sub, goInt, decide_true, beq_self_eq_true, Int.toNat_natCast, Int.natCast_nonneg, Int.ofNat_lt, T.av_cells, avs_length, ti9, ti23, ei23, un23, fi25_2, fi25_3, t0, t1, t2, t7, hlt, ha, avs_get hlt, hsl, pv_quo8, hq, hw1, hw2, hw3, hwd]) | (with_reducible refine codeW_seq_k (fun K hK => ?_)) | (with_reducible refine codeW_block ?_) | (with_reducible refine codeW_ret ?_) | (with_reducible refine codeW_label ?_) | (with_reducible refine codeW_scope ?_) | (with_reducible refine codeW_skip ?_) | (with_reducible refine codeW_exit ?_) | (with_reducible refine to_then_normal ?_) | (with_reducible refine to_then_ret ?_) | (with_reducible refine to_then_exit ?_) | (with_reducible refine to_block_normal ?_) | (with_reducible refine to_block_ret ?_) | (with_reducible refine to_block_hit ?_) | (with_reducible refine to_block_miss rfl ?_) | ((with_reducible refine hK _ ?_); clear hK) | (clear hK; (with_reducible refine hK _ ?_); clear hK) | (clear hK; clear hK; (with_reducible refine hK _ ?_); clear hK) | (clear hK; clear hK; clear hK; (with_reducible refine hK _ ?_); clear hK) | (refine codeW_cond rfl ?_; simp only [↓reduceIte]) | (intro (b : Bool); cases b))
            refine Onward.mk (m' := l.length - (j + 1)) (by omega) ?_
            rw [hI]
            refine ⟨j + 1, _, rfl, hlt, ?_, ?_, he, t0, rfl, t2, ?_, rfl⟩
            · exact hrb.1
            · omega
            · simp only [upd, ↓reduceIte]
              rw [wrap_nat (by omega)]
          · have he2 : weigh (d + 1) l n = a := by rw [hw, he, weighs_stop _ (by omega)]
            repeat (first | ((first | (with_reducible refine codeW_seq_region (fun K E hK hE => ?_)) | (with_reducible refine codeW_region_k (fun K E hK hE => ?_)) | (refine codeW_seq_any (id := 6) [(0, 0), (1, 0), (2, 0), (3, 0), (4, 0), (5, 0), (6, 0), (7, 0), (8, 0), (9, 0), (10, 0), (11, 0), (12, 0), (13, 0), (14, 0), (15, 0), (16, 0), (17, 1), (18, 0)] mixed (by kernel_rfl) (fun K hK => ?_)) | (refine codeW_region_any (id := 6) [(0, 0), (1, 0), (2, 0), (3, 0), (4, 0), (5, 0), (6, 0), (7, 0), (8, 0), (9, 0), (10, 0), (11, 0), (12, 0), (13, 0), (14, 0), (15, 0), (16, 0), (17, 1), (18, 0)] mixed (by kernel_rfl) (fun K hK => ?_))); simp -implicitDefEqProofs only [opsW_nil, opsW_cons, awanted, OpW, aop, AS.ev, put_some, ofV_int, upd_at, ↓reduceIte, Nat.reduceLT, Nat.reduceEqDiff, aBin, aLen, List.getElem?_cons_zero, List.getElem?_cons_succ, Option.map_some, Option.bind_some, List.getElem?_toArray, pv_lss, pv_geq, goInt, decide_true, decide_false, beq_self_eq_true, Int.ofNat_lt, avs_length, un23, t0, t1, t7, hlt, ha]) | (with_reducible refine codeW_seq_k (fun K hK => ?_)) | (with_reducible refine codeW_block ?_) | (with_reducible refine codeW_ret ?_) | (with_reducible refine codeW_label ?_) | (with_reducible refine codeW_scope ?_) | (with_reducible refine codeW_skip ?_) | (with_reducible refine codeW_exit ?_) | (with_reducible refine to_then_normal ?_) | (with_reducible refine to_then_ret ?_) | (with_reducible refine to_then_exit ?_) | (with_reducible refine to_block_normal ?_) | (with_reducible refine to_block_ret ?_) | (with_reducible refine to_block_hit ?_) | (with_reducible refine to_block_miss rfl ?_) | ((with_reducible refine hK _ ?_); clear hK) | (clear hK; (with_reducible refine hK _ ?_); clear hK) | (clear hK; clear hK; (with_reducible refine hK _ ?_); clear hK) | (clear hK; clear hK; clear hK; (with_reducible refine hK _ ?_); clear hK) | (refine codeW_cond rfl ?_; simp only [↓reduceIte, Bool.false_eq_true]) | (intro (b : Bool); cases b))
            simp only [BodyQ, aResults, aResult, upd, ↓reduceIte, Option.some.injEq, exists_eq_left']
            exact leaves_end List.take_length (.keep (.v _)) ⟨by rw [he2], rfl⟩
        · have hjl : j = l.length := by omega
          have he2 : weigh (d + 1) l n = a := by rw [hw, he, hjl, List.drop_length]; rfl
          repeat (first | ((first | (with_reducible refine codeW_seq_region (fun K E hK hE => ?_)) | (with_reducible refine codeW_region_k (fun K E hK hE => ?_)) | (refine codeW_seq_any (id := 6) [(0, 0), (1, 0), (2, 0), (3, 0), (4, 0), (5, 0), (6, 0), (7, 0), (8, 0), (9, 0), (10, 0), (11, 0), (12, 0), (13, 0), (14, 0), (15, 0), (16, 0), (17, 1), (18, 0)] mixed (by kernel_rfl) (fun K hK => ?_)) | (refine codeW_region_any (id := 6) [(0, 0), (1, 0), (2, 0), (3, 0), (4, 0), (5, 0), (6, 0), (7, 0), (8, 0), (9, 0), (10, 0), (11, 0), (12, 0), (13, 0), (14, 0), (15, 0), (16, 0), (17, 1), (18, 0)] mixed (by kernel_rfl) (fun K hK => ?_))); simp -implicitDefEqProofs only [opsW_nil, opsW_cons, awanted, OpW, aop, undef, AS.ev, put_some, ofV_bool, upd_at, ↓reduceIte, Nat.reduceLT, Nat.reduceEqDiff, aBin, aLen, List.getElem?_cons_zero, List.getElem?_cons_succ, Option.map_some, Option.bind_some, List.getElem?_toArray, pv_lss, goInt, decide_false, Int.ofNat_lt, Bool.false_eq_true, beq_true, avs_length, un23, t0, t1, t7, hlt]) | (with_reducible refine codeW_seq_k (fun K hK => ?_)) | (with_reducible refine codeW_block ?_) | (with_reducible refine codeW_ret ?_) | (with_reducible refine codeW_label ?_) | (with_reducible refine codeW_scope ?_) | (with_reducible refine codeW_skip ?_) | (with_reducible refine codeW_exit ?_) | (with_reducible refine to_then_normal ?_) | (with_reducible refine to_then_ret ?_) | (with_reducible refine to_then_exit ?_) | (with_reducible refine to_block_normal ?_) | (with_reducible refine to_block_ret ?_) | (with_reducible refine to_block_hit ?_) | (with_reducible refine to_block_miss rfl ?_) | ((with_reducible refine hK _ ?_); clear hK) | (clear hK; (with_reducible refine hK _ ?_); clear hK) | (clear hK; clear hK; (with_reducible refine hK _ ?_); clear hK) | (clear hK; clear hK; clear hK; (with_reducible refine hK _ ?_); clear hK) | (refine codeW_cond rfl ?_; simp only [↓reduceIte, Bool.false_eq_true]) | (intro (b : Bool); cases b))
          simp only [BodyQ, aResults, aResult, upd, ↓reduceIte, Option.some.injEq, exists_eq_left']
          exact leaves_end List.take_length (.keep (.v _)) ⟨by rw [he2], rfl⟩
      · rw [hI]
        exact ⟨0, n, by omega, Nat.zero_le _, by omega, Int.le_refl _, by rw [List.drop_zero], rfl, rfl, rfl, rfl, rfl⟩

theorem great_pure (l : List T) (most : Int) (ho : oks l) (hm : 0 ≤ most) (hm2 : most ≤ 1000000) : Pure Try.prog 10 [.sl 4 (avs l) none, .i most] (.b (weigh 64 l most < 0)) := by
  intro h
  have hc := weigh_pure 64 (Nat.le_refl _) l most ho (by omega) hm2
  refine callW_of_body Try.func10 rfl Try.call10 Try.ntmps10 (congrArg Array.toList Try.results10) (by simp) ?_
  repeat (first | ((first | (with_reducible refine codeW_seq_region (fun K E hK hE => ?_)) | (with_reducible refine codeW_region_k (fun K E hK hE => ?_)) | (with_reducible refine funW_pure hc ?_) | (with_reducible refine callA_pure hc ?_)); simp -implicitDefEqProofs only [opsW_nil, opsW_cons, awanted, OpW, contW, aop, undef, AS.ev, put_some, ofV_int, ofV_bool, upd_at, initTm, List.getD_cons_zero, List.getD_cons_succ, ↓reduceIte, Nat.reduceLT, Nat.reduceEqDiff, aBin, Option.map_some, List.map_cons, List.map_nil, pv_lss]) | (with_reducible refine codeW_seq_k (fun K hK => ?_)) | (with_reducible refine codeW_block ?_) | (with_reducible refine codeW_ret ?_) | (with_reducible refine codeW_label ?_) | (with_reducible refine codeW_scope ?_) | (with_reducible refine codeW_skip ?_) | (with_reducible refine codeW_exit ?_) | (with_reducible refine to_then_normal ?_) | (with_reducible refine to_then_ret ?_) | (with_reducible refine to_then_exit ?_) | (with_reducible refine to_block_normal ?_) | (with_reducible refine to_block_ret ?_) | (with_reducible refine to_block_hit ?_) | (with_reducible refine to_block_miss rfl ?_) | ((with_reducible refine hK _ ?_); clear hK) | (clear hK; (with_reducible refine hK _ ?_); clear hK) | (clear hK; clear hK; (with_reducible refine hK _ ?_); clear hK) | (clear hK; clear hK; clear hK; (with_reducible refine hK _ ?_); clear hK) | (refine codeW_cond rfl ?_; simp only [↓reduceIte, Bool.false_eq_true]) | (intro (b : Bool); cases b))
  simp only [BodyQ, aResults, aResult, upd, ↓reduceIte, Option.some.injEq, exists_eq_left']; first | refine leaves_end (htake _ _) (.keep (.v _)) ⟨rfl, rfl⟩ | refine leaves_end List.take_length (.keep (.v _)) ⟨rfl, rfl⟩
end Go.Proofs.Ytpfcnfcnljnnlaa.Ab
