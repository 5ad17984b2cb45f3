/-
  Words: what strings.IndexFunc finds.
-/
import Derived.Test.YthkiabcdkhpheaaDoorAb02a
import Derived.Lib.Strings
set_option linter.unusedSimpArgs false
set_option linter.unusedVariables false
set_option maxHeartbeats 4000000
set_option maxRecDepth 4000
-- @lean
namespace Go.Proofs.YthkiabcdkhpheaaDoor.Ab
open Go.Proofs

/-! words -/
theorem byteAt_from (s : ByteArray) (k : Nat) : byteAt (s.extract 1 s.size) k = byteAt s (k + 1) := by
  unfold byteAt
  rw [Lib.extract_data, List.take_of_length_le (by rw [List.length_drop, ← Lib.size_eq]; omega), List.getD_eq_getElem?_getD, List.getD_eq_getElem?_getD, List.getElem?_drop, Nat.add_comm 1 k]
theorem size_from (s : ByteArray) : (s.extract 1 s.size).size = s.size - 1 := by
  rw [Lib.size_eq, Lib.extract_data, List.length_take, List.length_drop, ← Lib.size_eq]; omega
def fol (c : Int) : Prop := ofN c ≠ 0
instance (c : Int) : Decidable (fol c) := by unfold fol; infer_instance
theorem fol_iff (c : Int) : fol c ↔ (97 ≤ c ∧ c ≤ 122) ∨ (65 ≤ c ∧ c ≤ 90) ∨ c = 95 ∨ (48 ≤ c ∧ c ≤ 57) := by
  unfold fol ofN
  split
  · constructor
    · intro _; omega
    · intro _; decide
  · split
    · constructor
      · intro _; omega
      · intro _; decide
    · split
      · constructor
        · intro _; omega
        · intro _; decide
      · constructor
        · intro h; exact absurd rfl h
        · intro _; omega
def Fol (s : ByteArray) : Prop := ∀ k, k < s.size → fol (byteAt s k)
instance (s : ByteArray) : Decidable (Fol s) := by unfold Fol; infer_instance

theorem ofN_cases (c : Int) : ofN c = 0 ∨ ofN c = 1 ∨ ofN c = 2 ∨ ofN c = 4 := by
  unfold ofN
  repeat' split
  all_goals simp

theorem stop_pure (r : Int) (hr : 0 ≤ r ∧ r < 2147483648) : Pure Tryd.prog 32 [.v (.int .i32 r)] (.b (decide (122 < r ∨ ¬ fol r))) := by
  intro h
  by_cases h1 : r > 122
  · refine callW_of_body Tryd.func32 rfl Tryd.call32 Tryd.ntmps32 (congrArg Array.toList Tryd.results32) (by simp) ?_
    repeat (first | ((first | (with_reducible refine codeW_seq_region (fun K E hK hE => ?_)) | (with_reducible refine codeW_region_k (fun K E hK hE => ?_))); simp -implicitDefEqProofs only [opsW_nil, opsW_cons, awanted, OpW, aop, undef, AS.ev, put_some, ofV_int, ofV_bool, upd_at, initTm, List.getD_cons_zero, Bool.not_true, ↓reduceIte, Nat.reduceLT, Nat.reduceEqDiff, aBin, List.getElem?_cons_zero, List.getElem?_cons_succ, Option.map_some, Option.bind_some, List.getElem?_toArray, pv_gtr, decide_true, beq_false, h1]) | (with_reducible refine codeW_seq_k (fun K hK => ?_)) | (with_reducible refine codeW_block ?_) | (with_reducible refine codeW_ret ?_) | (with_reducible refine codeW_label ?_) | (with_reducible refine codeW_scope ?_) | (with_reducible refine codeW_skip ?_) | (with_reducible refine codeW_exit ?_) | (with_reducible refine to_then_normal ?_) | (with_reducible refine to_then_ret ?_) | (with_reducible refine to_then_exit ?_) | (with_reducible refine to_block_normal ?_) | (with_reducible refine to_block_ret ?_) | (with_reducible refine to_block_hit ?_) | (with_reducible refine to_block_miss rfl ?_) | ((with_reducible refine hK _ ?_); clear hK) | (clear hK; (with_reducible refine hK _ ?_); clear hK) | (clear hK; clear hK; (with_reducible refine hK _ ?_); clear hK) | (clear hK; clear hK; clear hK; (with_reducible refine hK _ ?_); clear hK) | (refine codeW_cond rfl ?_; simp only [↓reduceIte, Bool.false_eq_true]) | (intro (b : Bool); cases b))
    simp only [BodyQ, aResults, aResult, upd, ↓reduceIte, Option.some.injEq, exists_eq_left']; first | refine leaves_end (htake _ _) (.keep (.v _)) ⟨by rw [decide_eq_true (.inl h1)], rfl⟩ | refine leaves_end List.take_length (.keep (.v _)) ⟨by rw [decide_eq_true (.inl h1)], rfl⟩
  · have hcv := pv_conv Tryd.prog 21 5 (ts := .int .i32) (kd := .u8) (by kernel_rfl) (by kernel_rfl) .i32
    have w0 : IntKind.u8.wrap r = r := by simp [IntKind.wrap, IntKind.bits, IntKind.signed]; omega
    have c := of_pure r (by omega)
    have hf : decide (122 < r ∨ ¬ fol r) = (ofN r == 0) := by
      by_cases h0 : ofN r = 0
      · rw [h0, decide_eq_true (.inr fun h => h h0)]; rfl
      · rw [decide_eq_false (by rintro (h | h); exact h1 h; exact h h0)]; simp [h0]
    have ha : ∀ xo yo a, a = 0 ∨ a = 1 ∨ a = 2 ∨ a = 4 → pv Tryd.prog (do eqGuard .and 30 xo yo (.int .u8 a) (.int .u8 7); binOp .and 30 (.int .u8 a) (.int .u8 7)) = some (.int .u8 a) := by
      rintro xo yo a (rfl | rfl | rfl | rfl) <;> rfl
    have ha' := fun xo yo => ha xo yo (ofN r) (ofN_cases r)
    refine callW_of_body Tryd.func32 rfl Tryd.call32 Tryd.ntmps32 (congrArg Array.toList Tryd.results32) (by simp) ?_
    repeat (first | ((first | (with_reducible refine codeW_seq_region (fun K E hK hE => ?_)) | (with_reducible refine codeW_region_k (fun K E hK hE => ?_)) | (with_reducible refine funW_pure c ?_) | (with_reducible refine callA_pure c ?_)); simp -implicitDefEqProofs only [opsW_nil, opsW_cons, awanted, OpW, contW, aop, undef, AS.ev, put_some, ofV_int, ofV_bool, upd_at, initTm, List.getD_cons_zero, ↓reduceIte, Nat.reduceLT, Nat.reduceEqDiff, aBin, List.getElem?_cons_zero, List.getElem?_cons_succ, Option.map_some, Option.bind_some, List.getElem?_toArray, List.map_cons, List.map_nil, pv_eql, pv_gtr, decide_false, beq_self_eq_true, Bool.false_eq_true, h1, hcv, w0, ha']) | (with_reducible refine codeW_seq_k (fun K hK => ?_)) | (with_reducible refine codeW_block ?_) | (with_reducible refine codeW_ret ?_) | (with_reducible refine codeW_label ?_) | (with_reducible refine codeW_scope ?_) | (with_reducible refine codeW_skip ?_) | (with_reducible refine codeW_exit ?_) | (with_reducible refine to_then_normal ?_) | (with_reducible refine to_then_ret ?_) | (with_reducible refine to_then_exit ?_) | (with_reducible refine to_block_normal ?_) | (with_reducible refine to_block_ret ?_) | (with_reducible refine to_block_hit ?_) | (with_reducible refine to_block_miss rfl ?_) | ((with_reducible refine hK _ ?_); clear hK) | (clear hK; (with_reducible refine hK _ ?_); clear hK) | (clear hK; clear hK; (with_reducible refine hK _ ?_); clear hK) | (clear hK; clear hK; clear hK; (with_reducible refine hK _ ?_); clear hK) | (refine codeW_cond rfl ?_; simp only [↓reduceIte, Bool.false_eq_true]) | (intro (b : Bool); cases b))
    simp only [BodyQ, aResults, aResult, upd, ↓reduceIte, Option.some.injEq, exists_eq_left']; first | refine leaves_end (htake _ _) (.keep (.v _)) ⟨by rw [hf], rfl⟩ | refine leaves_end List.take_length (.keep (.v _)) ⟨by rw [hf], rfl⟩

/-- the first byte that does not follow -/
def ixR (s : ByteArray) : Nat → Nat → Int
  | _, 0 => -1
  | p, n + 1 => if fol (byteAt s p) then ixR s (p + 1) n else p
theorem ixR_neg (s : ByteArray) : ∀ (n p : Nat), ixR s p n < 0 ↔ ∀ k, p ≤ k → k < p + n → fol (byteAt s k)
  | 0, p => by simp only [ixR]; exact ⟨fun _ k h1 h2 => by omega, fun _ => by omega⟩
  | n + 1, p => by
    simp only [ixR]
    split
    · rename_i h
      rw [ixR_neg s n (p + 1)]
      constructor
      · intro h' k h1 h2
        by_cases hk : k = p
        · rw [hk]; exact h
        · exact h' k (by omega) (by omega)
      · intro h' k h1 h2; exact h' k (by omega) (by omega)
    · rename_i h
      constructor
      · intro h'; omega
      · intro h'; exact absurd (h' p (Nat.le_refl _) (by omega)) h

theorem decode_lt (s : ByteArray) (i : Nat) : (Utf8.decode s i).1 < 2147483648 := by
  unfold Utf8.decode
  have hr : Utf8.runeError < 2147483648 := by decide
  have hb : ∀ k, (s.get! k).toNat < 256 := fun k => (s.get! k).toNat_lt
  have b0 := hb (i + 0)
  have b1 := hb (i + 1)
  have b2 := hb (i + 2)
  have b3 := hb (i + 3)
  simp only
  repeat' split
  all_goals first | exact hr | (simp only; omega)

theorem indexFunc_pure (b : ByteArray) (hs : b.size ≤ maxLen) : Pure Tryd.prog 38 [.v (.string b), .fn (.func 32) [] [], .b true] (.i (ixR b 0 b.size)) := by
  intro h
  have hbe := fun xo yo a b => pv_beql Tryd.prog 4 xo yo (by kernel_rfl) a b
  refine callW_of_body Tryd.func38 rfl Tryd.call38 Tryd.ntmps38 (congrArg Array.toList Tryd.results38) (by simp) ?_
  repeat (first | ((first | (with_reducible refine codeW_seq_region (fun K E hK hE => ?_)) | (with_reducible refine codeW_region_k (fun K E hK hE => ?_))); simp -implicitDefEqProofs only [opsW_nil, opsW_cons, awanted, OpW, aop, undef, AS.ev, put_some, ofV_int, upd_at, initTm, List.getD_cons_zero, ↓reduceIte, Nat.reduceLT, Nat.reduceEqDiff, un9]) | (with_reducible refine codeW_seq_k (fun K hK => ?_)) | (with_reducible refine codeW_block ?_) | (with_reducible refine codeW_ret ?_) | (with_reducible refine codeW_label ?_) | (with_reducible refine codeW_scope ?_) | (with_reducible refine codeW_skip ?_) | (with_reducible refine codeW_exit ?_) | (with_reducible refine to_then_normal ?_) | (with_reducible refine to_then_ret ?_) | (with_reducible refine to_then_exit ?_) | (with_reducible refine to_block_normal ?_) | (with_reducible refine to_block_ret ?_) | (with_reducible refine to_block_hit ?_) | (with_reducible refine to_block_miss rfl ?_) | ((with_reducible refine hK _ ?_); clear hK) | (clear hK; (with_reducible refine hK _ ?_); clear hK) | (clear hK; clear hK; (with_reducible refine hK _ ?_); clear hK) | (clear hK; clear hK; clear hK; (with_reducible refine hK _ ?_); clear hK) | (refine codeW_cond rfl ?_; simp only [↓reduceIte, Bool.false_eq_true]) | (intro (b : Bool); cases b))
  obtain ⟨I, hI⟩ : ∃ I : Nat → AS → Prop, I = fun m' s => ∃ (p : Nat), m' = b.size - p ∧ p ≤ b.size ∧ ixR b 0 b.size = ixR b p (b.size - p) ∧ s.tm 1 = .fn (.func 32) [] [] ∧ s.tm 2 = .b true ∧ s.tm 10 = .mp h.length ∧ s.h = h ++ [.iter b p] := ⟨_, rfl⟩; refine codeW_loop I ?_ (m := b.size) ?_
  · intro m' s hs; rw [hI] at hs; obtain ⟨tm, hp⟩ := s; dsimp only at hs; obtain ⟨p, rfl, hp', he, t1, t2, t10, rfl⟩ := hs
    by_cases hlt : p < b.size
    · have c := stop_pure ((Utf8.decode b p).1 : Int) ⟨by omega, by have := decode_lt b p; omega⟩
      obtain ⟨n, hn⟩ : ∃ n, b.size - p = n + 1 := ⟨b.size - p - 1, by omega⟩
      rw [hn, ixR] at he
      by_cases hf : fol (byteAt b p)
      · rw [if_pos hf] at he
        have hb : byteAt b p < 128 := by have := (fol_iff _).1 hf; omega
        obtain ⟨d1, d2⟩ := decode_ascii hb
        have hc : decide (122 < ((Utf8.decode b p).1 : Int) ∨ ¬ fol ((Utf8.decode b p).1 : Int)) = false := by
          rw [d1]
          refine decide_eq_false ?_
          rintro (h1 | h1)
          · have := (fol_iff _).1 hf; omega
          · exact h1 hf
        rw [hc] at c
        repeat (first | ((first | (with_reducible refine codeW_seq_region (fun K E hK hE => ?_)) | (with_reducible refine codeW_region_k (fun K E hK hE => ?_)) | (with_reducible refine funW_pure c ?_) | (with_reducible refine callA_pure c ?_)); simp -implicitDefEqProofs only [opsW_nil, opsW_cons, awanted, OpW, contW, aop, AS.ev, put_some, upd_at, ↓reduceIte, Nat.reduceLT, Nat.reduceEqDiff, aBin, aExtract, hget0, hset0, List.getElem?_cons_zero, List.getElem?_cons_succ, List.set_cons_zero, Option.map_some, List.map_cons, List.map_nil, goInt, beq_true, aNext, t1, t2, t10, hlt, d2, hbe]) | (with_reducible refine codeW_seq_k (fun K hK => ?_)) | (with_reducible refine codeW_block ?_) | (with_reducible refine codeW_ret ?_) | (with_reducible refine codeW_label ?_) | (with_reducible refine codeW_scope ?_) | (with_reducible refine codeW_skip ?_) | (with_reducible refine codeW_exit ?_) | (with_reducible refine to_then_normal ?_) | (with_reducible refine to_then_ret ?_) | (with_reducible refine to_then_exit ?_) | (with_reducible refine to_block_normal ?_) | (with_reducible refine to_block_ret ?_) | (with_reducible refine to_block_hit ?_) | (with_reducible refine to_block_miss rfl ?_) | ((with_reducible refine hK _ ?_); clear hK) | (clear hK; (with_reducible refine hK _ ?_); clear hK) | (clear hK; clear hK; (with_reducible refine hK _ ?_); clear hK) | (clear hK; clear hK; clear hK; (with_reducible refine hK _ ?_); clear hK) | (refine codeW_cond rfl ?_; simp only [↓reduceIte, Bool.false_eq_true]) | (intro (b : Bool); cases b))
        refine Onward.mk (m' := b.size - (p + 1)) (by omega) ?_
        rw [hI]
        exact ⟨p + 1, rfl, hlt, by rw [he, show n = b.size - (p + 1) by omega], t1, t2, t10, rfl⟩
      · rw [if_neg hf] at he
        have hc : decide (122 < ((Utf8.decode b p).1 : Int) ∨ ¬ fol ((Utf8.decode b p).1 : Int)) = true := by
          refine decide_eq_true ?_
          by_cases hb : byteAt b p < 128
          · right; rw [(decode_ascii hb).1]; exact hf
          · left; have := decode_big (s := b) (i := p) (by omega); omega
        rw [hc] at c
        repeat (first | ((first | (with_reducible refine codeW_seq_region (fun K E hK hE => ?_)) | (with_reducible refine codeW_region_k (fun K E hK hE => ?_)) | (with_reducible refine funW_pure c ?_) | (with_reducible refine callA_pure c ?_)); simp -implicitDefEqProofs only [opsW_nil, opsW_cons, awanted, OpW, contW, aop, AS.ev, put_some, upd_at, ↓reduceIte, Nat.reduceLT, Nat.reduceEqDiff, aBin, aExtract, hget0, hset0, List.getElem?_cons_zero, List.getElem?_cons_succ, List.set_cons_zero, Option.map_some, List.map_cons, List.map_nil, goInt, beq_self_eq_true, aNext, t1, t2, t10, hlt, hbe]) | (with_reducible refine codeW_seq_k (fun K hK => ?_)) | (with_reducible refine codeW_block ?_) | (with_reducible refine codeW_ret ?_) | (with_reducible refine codeW_label ?_) | (with_reducible refine codeW_scope ?_) | (with_reducible refine codeW_skip ?_) | (with_reducible refine codeW_exit ?_) | (with_reducible refine to_then_normal ?_) | (with_reducible refine to_then_ret ?_) | (with_reducible refine to_then_exit ?_) | (with_reducible refine to_block_normal ?_) | (with_reducible refine to_block_ret ?_) | (with_reducible refine to_block_hit ?_) | (with_reducible refine to_block_miss rfl ?_) | ((with_reducible refine hK _ ?_); clear hK) | (clear hK; (with_reducible refine hK _ ?_); clear hK) | (clear hK; clear hK; (with_reducible refine hK _ ?_); clear hK) | (clear hK; clear hK; clear hK; (with_reducible refine hK _ ?_); clear hK) | (refine codeW_cond rfl ?_; simp only [↓reduceIte]) | (intro (b : Bool); cases b))
        simp only [BodyQ, aResults, aResult, upd, ↓reduceIte, Option.some.injEq, exists_eq_left']; first | refine leaves_end (htake _ _) (.keep (.v _)) ⟨by rw [he], rfl⟩ | refine leaves_end List.take_length (.keep (.v _)) ⟨by rw [he], rfl⟩
    · rw [show b.size - p = 0 by omega, ixR] at he
      repeat (first | ((first | (with_reducible refine codeW_seq_region (fun K E hK hE => ?_)) | (with_reducible refine codeW_region_k (fun K E hK hE => ?_))); simp -implicitDefEqProofs only [opsW_nil, opsW_cons, awanted, OpW, aop, AS.ev, put_some, ofV_int, upd_at, ↓reduceIte, Nat.reduceLT, aExtract, hget0, List.getElem?_cons_zero, Option.map_some, aNext, t10, hlt]) | (with_reducible refine codeW_seq_k (fun K hK => ?_)) | (with_reducible refine codeW_block ?_) | (with_reducible refine codeW_ret ?_) | (with_reducible refine codeW_label ?_) | (with_reducible refine codeW_scope ?_) | (with_reducible refine codeW_skip ?_) | (with_reducible refine codeW_exit ?_) | (with_reducible refine to_then_normal ?_) | (with_reducible refine to_then_ret ?_) | (with_reducible refine to_then_exit ?_) | (with_reducible refine to_block_normal ?_) | (with_reducible refine to_block_ret ?_) | (with_reducible refine to_block_hit ?_) | (with_reducible refine to_block_miss rfl ?_) | ((with_reducible refine hK _ ?_); clear hK) | (clear hK; (with_reducible refine hK _ ?_); clear hK) | (clear hK; clear hK; (with_reducible refine hK _ ?_); clear hK) | (clear hK; clear hK; clear hK; (with_reducible refine hK _ ?_); clear hK) | (refine codeW_cond rfl ?_; simp only [↓reduceIte, Bool.false_eq_true]) | (intro (b : Bool); cases b))
      simp only [BodyQ, aResults, aResult, upd, ↓reduceIte, Option.some.injEq, exists_eq_left']; first | refine leaves_end (htake _ _) (.keep (.v _)) ⟨by rw [he], rfl⟩ | refine leaves_end List.take_length (.keep (.v _)) ⟨by rw [he], rfl⟩
  · rw [hI]
    exact ⟨0, by omega, Nat.zero_le _, rfl, rfl, rfl, rfl, rfl⟩

theorem indexFuncTop_pure (b : ByteArray) (hs : b.size ≤ maxLen) : Pure Tryd.prog 31 [.v (.string b), .fn (.func 32) [] []] (.i (ixR b 0 b.size)) := by
  intro h
  have c := indexFunc_pure b hs
  refine callW_of_body Tryd.func31 rfl Tryd.call31 Tryd.ntmps31 (congrArg Array.toList Tryd.results31) (by simp) ?_
  repeat (first | ((first | (with_reducible refine codeW_seq_region (fun K E hK hE => ?_)) | (with_reducible refine codeW_region_k (fun K E hK hE => ?_)) | (with_reducible refine funW_pure c ?_) | (with_reducible refine callA_pure c ?_)); simp -implicitDefEqProofs only [opsW_nil, opsW_cons, awanted, OpW, contW, aop, undef, AS.ev, put_some, ofV_int, ofV_bool, upd_at, initTm, List.getD_cons_zero, List.getD_cons_succ, ↓reduceIte, Nat.reduceLT, Nat.reduceEqDiff, List.map_cons, List.map_nil]) | (with_reducible refine codeW_seq_k (fun K hK => ?_)) | (with_reducible refine codeW_block ?_) | (with_reducible refine codeW_ret ?_) | (with_reducible refine codeW_label ?_) | (with_reducible refine codeW_scope ?_) | (with_reducible refine codeW_skip ?_) | (with_reducible refine codeW_exit ?_) | (with_reducible refine to_then_normal ?_) | (with_reducible refine to_then_ret ?_) | (with_reducible refine to_then_exit ?_) | (with_reducible refine to_block_normal ?_) | (with_reducible refine to_block_ret ?_) | (with_reducible refine to_block_hit ?_) | (with_reducible refine to_block_miss rfl ?_) | ((with_reducible refine hK _ ?_); clear hK) | (clear hK; (with_reducible refine hK _ ?_); clear hK) | (clear hK; clear hK; (with_reducible refine hK _ ?_); clear hK) | (clear hK; clear hK; clear hK; (with_reducible refine hK _ ?_); clear hK) | (refine codeW_cond rfl ?_; simp only [↓reduceIte, Bool.false_eq_true]) | (intro (b : Bool); cases b))
  simp only [BodyQ, aResults, aResult, upd, ↓reduceIte, Option.some.injEq, exists_eq_left']; first | refine leaves_end (htake _ _) (.keep (.v _)) ⟨rfl, rfl⟩ | refine leaves_end List.take_length (.keep (.v _)) ⟨rfl, rfl⟩

def wordP (first : Int) (s : ByteArray) : Prop := 1 ≤ s.size ∧ s.size ≤ 40 ∧ ofN (byteAt s 0) = first ∧ Fol s
instance (first : Int) (s : ByteArray) : Decidable (wordP first s) := by unfold wordP; infer_instance
theorem empty_size (s : ByteArray) : (s.toList == ({ data := #[] } : ByteArray).toList) = decide (s.size = 0) := by
  rw [Lib.toList_data, Lib.toList_data, Lib.size_eq]
  cases s.data.toList <;> simp
theorem word_pure (first : Int) (hf : first = 1 ∨ first = 2) (s : ByteArray) : Pure Tryd.prog 21 [.v (.string s), .v (.int .u8 first)] (.b (decide (wordP first s))) := by
  intro h
  have hsl := fun b => pv_slen Tryd.prog 9 3 (by kernel_rfl) b
  by_cases n0 : s.size = 0
  · have d0 : (s.toList == ({ data := #[] } : ByteArray).toList) = true := by rw [empty_size, decide_eq_true n0]
    refine callW_of_body Tryd.func21 rfl Tryd.call21 Tryd.ntmps21 (congrArg Array.toList Tryd.results21) (by simp) ?_
    repeat (first | ((first | (with_reducible refine codeW_seq_region (fun K E hK hE => ?_)) | (with_reducible refine codeW_region_k (fun K E hK hE => ?_))); simp -implicitDefEqProofs only [opsW_nil, opsW_cons, awanted, OpW, aop, undef, AS.ev, put_some, ofV_bool, ofV_str, upd_at, initTm, List.getD_cons_zero, Bool.not_true, ↓reduceIte, Nat.reduceLT, Nat.reduceEqDiff, aBin, List.getElem?_cons_zero, List.getElem?_cons_succ, Option.map_some, Option.bind_some, List.getElem?_toArray, pv_seql, beq_false, d0]) | (with_reducible refine codeW_seq_k (fun K hK => ?_)) | (with_reducible refine codeW_block ?_) | (with_reducible refine codeW_ret ?_) | (with_reducible refine codeW_label ?_) | (with_reducible refine codeW_scope ?_) | (with_reducible refine codeW_skip ?_) | (with_reducible refine codeW_exit ?_) | (with_reducible refine to_then_normal ?_) | (with_reducible refine to_then_ret ?_) | (with_reducible refine to_then_exit ?_) | (with_reducible refine to_block_normal ?_) | (with_reducible refine to_block_ret ?_) | (with_reducible refine to_block_hit ?_) | (with_reducible refine to_block_miss rfl ?_) | ((with_reducible refine hK _ ?_); clear hK) | (clear hK; (with_reducible refine hK _ ?_); clear hK) | (clear hK; clear hK; (with_reducible refine hK _ ?_); clear hK) | (clear hK; clear hK; clear hK; (with_reducible refine hK _ ?_); clear hK) | (refine codeW_cond rfl ?_; simp only [↓reduceIte]) | (intro (b : Bool); cases b))
    simp only [BodyQ, aResults, aResult, upd, ↓reduceIte, Option.some.injEq, exists_eq_left']; first | refine leaves_end (htake _ _) (.keep (.v _)) ⟨by rw [decide_eq_false (fun h => by have := h.1; omega)], rfl⟩ | refine leaves_end List.take_length (.keep (.v _)) ⟨by rw [decide_eq_false (fun h => by have := h.1; omega)], rfl⟩
  · have d0 : (s.toList == ({ data := #[] } : ByteArray).toList) = false := by rw [empty_size, decide_eq_false n0]
    by_cases n1 : s.size ≤ 40
    · have m1 : ¬ ((s.size : Int) > 40) := by omega
      have hix := pv_sindex0 Tryd.prog 9 (by kernel_rfl) s (by omega)
      have hr := byteAt_rng s 0
      have c := of_pure (byteAt s 0) hr
      have ha : ∀ xo yo a, a = 0 ∨ a = 1 ∨ a = 2 ∨ a = 4 → pv Tryd.prog (do eqGuard .and 30 xo yo (.int .u8 a) (.int .u8 first); binOp .and 30 (.int .u8 a) (.int .u8 first)) = some (.int .u8 (if a = first then first else 0)) := by
        rcases hf with rfl | rfl <;> rintro xo yo a (rfl | rfl | rfl | rfl) <;> rfl
      have ha' := fun xo yo => ha xo yo (ofN (byteAt s 0)) (ofN_cases _)
      by_cases hc : ofN (byteAt s 0) = first
      · have f0 : (first == 0) = false := by simp; omega
        have hsf := pv_sfrom Tryd.prog 9 (by kernel_rfl) s 1 (by omega)
        have hsf' : pv Tryd.prog (Instr.sliceAt 9 (.string s) (some (.int .i64 1)) none none) = some (.string (s.extract 1 s.size)) := hsf
        have ci := indexFuncTop_pure (s.extract 1 s.size) (by rw [size_from]; simp only [maxLen]; omega)
        have hi : decide (ixR (s.extract 1 s.size) 0 (s.extract 1 s.size).size < 0) = decide (wordP first s) := by
          rw [decide_eq_decide, ixR_neg]
          simp only [size_from, byteAt_from, Nat.zero_add]
          constructor
          · intro h1
            refine ⟨by omega, n1, hc, fun k hk => ?_⟩
            cases k with
            | zero => show ofN _ ≠ 0; rw [hc]; omega
            | succ k => exact h1 k (Nat.zero_le _) (by omega)
          · rintro ⟨_, _, _, h4⟩ k _ hk
            exact h4 (k + 1) (by omega)
        rw [if_pos hc] at ha'
        refine callW_of_body Tryd.func21 rfl Tryd.call21 Tryd.ntmps21 (congrArg Array.toList Tryd.results21) (by simp) ?_
        repeat (first | ((first | (with_reducible refine codeW_seq_region (fun K E hK hE => ?_)) | (with_reducible refine codeW_region_k (fun K E hK hE => ?_)) | (with_reducible refine funW_pure c ?_) | (with_reducible refine callA_pure c ?_) | (with_reducible refine funW_pure ci ?_) | (with_reducible refine callA_pure ci ?_)); simp -implicitDefEqProofs only [opsW_nil, opsW_cons, awanted, OpW, contW, aop, undef, AS.ev, put_some, ofV_int, ofV_bool, ofV_str, upd_at, initTm, List.getD_cons_zero, List.getD_cons_succ, ↓reduceIte, Nat.reduceLT, Nat.reduceEqDiff, aBin, aSlice, aLen, List.getElem?_cons_zero, List.getElem?_cons_succ, Option.map_some, Option.map_none, Option.bind_some, List.getElem?_toArray, List.map_cons, List.map_nil, pv_eql, pv_lss, pv_gtr, pv_seql, goInt, decide_false, beq_self_eq_true, Bool.false_eq_true, ei9, d0, hsl, m1, hix, ha', f0, hsf']) | (with_reducible refine codeW_seq_k (fun K hK => ?_)) | (with_reducible refine codeW_block ?_) | (with_reducible refine codeW_ret ?_) | (with_reducible refine codeW_label ?_) | (with_reducible refine codeW_scope ?_) | (with_reducible refine codeW_skip ?_) | (with_reducible refine codeW_exit ?_) | (with_reducible refine to_then_normal ?_) | (with_reducible refine to_then_ret ?_) | (with_reducible refine to_then_exit ?_) | (with_reducible refine to_block_normal ?_) | (with_reducible refine to_block_ret ?_) | (with_reducible refine to_block_hit ?_) | (with_reducible refine to_block_miss rfl ?_) | ((with_reducible refine hK _ ?_); clear hK) | (clear hK; (with_reducible refine hK _ ?_); clear hK) | (clear hK; clear hK; (with_reducible refine hK _ ?_); clear hK) | (clear hK; clear hK; clear hK; (with_reducible refine hK _ ?_); clear hK) | (refine codeW_cond rfl ?_; simp only [↓reduceIte, Bool.false_eq_true]) | (intro (b : Bool); cases b))
        simp only [BodyQ, aResults, aResult, upd, ↓reduceIte, Option.some.injEq, exists_eq_left']; first | refine leaves_end (htake _ _) (.keep (.v _)) ⟨by rw [hi], rfl⟩ | refine leaves_end List.take_length (.keep (.v _)) ⟨by rw [hi], rfl⟩
      · rw [if_neg hc] at ha'
        refine callW_of_body Tryd.func21 rfl Tryd.call21 Tryd.ntmps21 (congrArg Array.toList Tryd.results21) (by simp) ?_
        repeat (first | ((first | (with_reducible refine codeW_seq_region (fun K E hK hE => ?_)) | (with_reducible refine codeW_region_k (fun K E hK hE => ?_)) | (with_reducible refine funW_pure c ?_) | (with_reducible refine callA_pure c ?_)); simp -implicitDefEqProofs only [opsW_nil, opsW_cons, awanted, OpW, contW, aop, undef, AS.ev, put_some, ofV_int, ofV_bool, ofV_str, upd_at, initTm, List.getD_cons_zero, List.getD_cons_succ, ↓reduceIte, Nat.reduceLT, Nat.reduceEqDiff, aBin, aLen, List.getElem?_cons_zero, List.getElem?_cons_succ, Option.map_some, Option.bind_some, List.getElem?_toArray, List.map_cons, List.map_nil, pv_eql, pv_gtr, pv_seql, goInt, decide_false, beq_self_eq_true, Bool.false_eq_true, d0, hsl, m1, hix, ha']) | (with_reducible refine codeW_seq_k (fun K hK => ?_)) | (with_reducible refine codeW_block ?_) | (with_reducible refine codeW_ret ?_) | (with_reducible refine codeW_label ?_) | (with_reducible refine codeW_scope ?_) | (with_reducible refine codeW_skip ?_) | (with_reducible refine codeW_exit ?_) | (with_reducible refine to_then_normal ?_) | (with_reducible refine to_then_ret ?_) | (with_reducible refine to_then_exit ?_) | (with_reducible refine to_block_normal ?_) | (with_reducible refine to_block_ret ?_) | (with_reducible refine to_block_hit ?_) | (with_reducible refine to_block_miss rfl ?_) | ((with_reducible refine hK _ ?_); clear hK) | (clear hK; (with_reducible refine hK _ ?_); clear hK) | (clear hK; clear hK; (with_reducible refine hK _ ?_); clear hK) | (clear hK; clear hK; clear hK; (with_reducible refine hK _ ?_); clear hK) | (refine codeW_cond rfl ?_; simp only [↓reduceIte]) | (intro (b : Bool); cases b))
        simp only [BodyQ, aResults, aResult, upd, ↓reduceIte, Option.some.injEq, exists_eq_left']; first | refine leaves_end (htake _ _) (.keep (.v _)) ⟨by rw [decide_eq_false (fun h => hc h.2.2.1)], rfl⟩ | refine leaves_end List.take_length (.keep (.v _)) ⟨by rw [decide_eq_false (fun h => hc h.2.2.1)], rfl⟩
    · have m1 : ((s.size : Int) > 40) := by omega
      refine callW_of_body Tryd.func21 rfl Tryd.call21 Tryd.ntmps21 (congrArg Array.toList Tryd.results21) (by simp) ?_
      repeat (first | ((first | (with_reducible refine codeW_seq_region (fun K E hK hE => ?_)) | (with_reducible refine codeW_region_k (fun K E hK hE => ?_))); simp -implicitDefEqProofs only [opsW_nil, opsW_cons, awanted, OpW, aop, undef, AS.ev, put_some, ofV_int, ofV_bool, ofV_str, upd_at, initTm, List.getD_cons_zero, Bool.not_true, ↓reduceIte, Nat.reduceLT, Nat.reduceEqDiff, aBin, aLen, List.getElem?_cons_zero, List.getElem?_cons_succ, Option.map_some, Option.bind_some, List.getElem?_toArray, pv_gtr, pv_seql, goInt, decide_true, beq_self_eq_true, Bool.false_eq_true, beq_false, d0, hsl, m1]) | (with_reducible refine codeW_seq_k (fun K hK => ?_)) | (with_reducible refine codeW_block ?_) | (with_reducible refine codeW_ret ?_) | (with_reducible refine codeW_label ?_) | (with_reducible refine codeW_scope ?_) | (with_reducible refine codeW_skip ?_) | (with_reducible refine codeW_exit ?_) | (with_reducible refine to_then_normal ?_) | (with_reducible refine to_then_ret ?_) | (with_reducible refine to_then_exit ?_) | (with_reducible refine to_block_normal ?_) | (with_reducible refine to_block_ret ?_) | (with_reducible refine to_block_hit ?_) | (with_reducible refine to_block_miss rfl ?_) | ((with_reducible refine hK _ ?_); clear hK) | (clear hK; (with_reducible refine hK _ ?_); clear hK) | (clear hK; clear hK; (with_reducible refine hK _ ?_); clear hK) | (clear hK; clear hK; clear hK; (with_reducible refine hK _ ?_); clear hK) | (refine codeW_cond rfl ?_; simp only [↓reduceIte]) | (intro (b : Bool); cases b))
      simp only [BodyQ, aResults, aResult, upd, ↓reduceIte, Option.some.injEq, exists_eq_left']; first | refine leaves_end (htake _ _) (.keep (.v _)) ⟨by rw [decide_eq_false (fun h => by have := h.2.1; omega)], rfl⟩ | refine leaves_end List.take_length (.keep (.v _)) ⟨by rw [decide_eq_false (fun h => by have := h.2.1; omega)], rfl⟩
end Go.Proofs.YthkiabcdkhpheaaDoor.Ab
