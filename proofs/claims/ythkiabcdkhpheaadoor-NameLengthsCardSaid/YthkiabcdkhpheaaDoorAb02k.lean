/-
  Words of equal letters; rows that are filled from their beginning on.
-/
import Derived.Test.YthkiabcdkhpheaaDoorAb02f
import Derived.Test.YthkiabcdkhpheaaDoorAbThree
set_option linter.unusedSimpArgs false
set_option linter.unusedVariables false
set_option maxHeartbeats 4000000
set_option maxRecDepth 4000
-- @lean
namespace Go.Proofs.YthkiabcdkhpheaaDoor.Ab
open Go.Proofs

/-! words of equal letters -/
def rep (n : Nat) (c : Int) : ByteArray := strOfNums (List.replicate n c)
theorem rep_size (n : Nat) (c : Int) : (rep n c).size = n := by rw [rep, strOfNums_size, List.length_replicate]
theorem rep_byte (n k : Nat) (c : Int) (hc : 0 ≤ c ∧ c < 256) (hk : k < n) : byteAt (rep n c) k = c := by
  unfold byteAt rep
  rw [strOfNums_data, List.map_replicate, List.getD_eq_getElem?_getD, List.getElem?_replicate, if_pos hk]
  show ((UInt8.ofNat c.toNat).toNat : Int) = c
  rw [UInt8.toNat_ofNat']
  omega
theorem rep_word (f : Int) (n : Nat) (c : Int) (hc : 0 ≤ c ∧ c < 256) (hf : ofN c = f) (h0 : f ≠ 0) : wordP f (rep n c) ↔ 1 ≤ n ∧ n ≤ 40 := by
  constructor
  · rintro ⟨h1, h2, _⟩
    rw [rep_size] at h1 h2
    exact ⟨h1, h2⟩
  · rintro ⟨h1, h2⟩
    refine ⟨by rw [rep_size]; exact h1, by rw [rep_size]; exact h2, by rw [rep_byte n 0 c hc (by omega)]; exact hf, fun k hk => ?_⟩
    rw [rep_size] at hk
    rw [rep_byte n k c hc hk]
    show ofN c ≠ 0
    rw [hf]; exact h0
theorem rep_not (f : Int) (n : Nat) (c : Int) (hc : 0 ≤ c ∧ c < 256) (hf : ofN c ≠ f) : ¬ wordP f (rep n c) := by
  rintro ⟨h1, _, h3, _⟩
  rw [rep_size] at h1
  rw [rep_byte n 0 c hc (by omega)] at h3
  exact hf h3
theorem rep_res (n : Nat) : resB (rep n 97) = false := by
  cases hr : resB (rep n 97) with
  | false => rfl
  | true =>
    have hl : ∀ l : List UInt8, (rep n 97).data.toList = l → ∀ x ∈ l, x = 97 := fun l h x hx => by
      rw [← h] at hx
      unfold rep at hx
      rw [strOfNums_data, List.map_replicate] at hx
      exact List.eq_of_mem_replicate hx
    rcases res_is hr with h | h | h | h | h | h <;> (have := hl _ h; revert this; decide)

/-- a row that is filled from its beginning on -/
def fil (n i : Nat) (c : Int) : List AV := List.replicate i (.v (.int .u8 c)) ++ List.replicate (n - i) (.v (.int .u8 0))
theorem fil_zero (n : Nat) (c : Int) : fil n 0 c = List.replicate n (.v (.int .u8 0)) := by simp [fil]
theorem fil_full (n : Nat) (c : Int) : fil n n c = (List.replicate n c).map fun n => AV.v (.int .u8 n) := by simp [fil]
theorem fil_len (n i : Nat) (c : Int) (h : i ≤ n) : (fil n i c).length = n := by simp [fil]; omega
theorem fil_get (n i : Nat) (c : Int) (h : i < n) : (fil n i c)[i]? = some (.v (.int .u8 0)) := by
  unfold fil
  rw [List.getElem?_append_right (by simp), List.getElem?_replicate, if_pos (by simp; omega)]
theorem fil_set (n i : Nat) (c : Int) (h : i < n) : (fil n i c).set i (.v (.int .u8 c)) = fil n (i + 1) c := by
  apply List.ext_getElem?
  intro j
  unfold fil
  rw [List.getElem?_set]
  by_cases hj : i = j
  · subst hj
    rw [if_pos rfl, if_pos (by simp; omega), List.getElem?_append_left (by simp), List.getElem?_replicate, if_pos (by omega)]
  · rw [if_neg hj]
    rcases Nat.lt_or_ge j i with h1 | h1
    · rw [List.getElem?_append_left (by simp; omega), List.getElem?_append_left (by simp; omega), List.getElem?_replicate, List.getElem?_replicate, if_pos h1, if_pos (by omega)]
    · rw [List.getElem?_append_right (by simp; omega), List.getElem?_append_right (by simp; omega), List.getElem?_replicate, List.getElem?_replicate]
      simp only [List.length_replicate]
      by_cases h2 : j < n
      · rw [if_pos (by omega), if_pos (by omega)]
      · rw [if_neg (by omega), if_neg (by omega)]
theorem make_no (n : Nat) (h0 : 1 ≤ n) (H : AH) : aMake Tryd.prog 28 (.v (.int .i64 n)) (.v (.int .i64 n)) H = none := by
  unfold aMake
  split
  · rename_i q1 q2 m e1 e2
    have : (n : Int) = 0 := by injection e1 with e1; injection e1
    omega
  · rfl
theorem make_row (n : Nat) (h0 : 1 ≤ n) (h1 : n ≤ 3000) (H : AH) : aMakeN Tryd.prog 28 (.v (.int .i64 n)) (.v (.int .i64 n)) H = some (.arr H.length 0 n, H ++ [.cells 5 1 (List.replicate n (.v (.int .u8 0)))]) := by
  have he : elemInfo Tryd.prog 28 = some (5, 1) := by kernel_rfl
  have hi : (Tryd.prog.info? 5).map (fun i => (i.bytes, i.size, i.zero)) = some (1, 1, some (.int .u8 0)) := by kernel_rfl
  unfold aMakeN
  simp only [he]
  obtain ⟨i, hi1, hi2⟩ := Option.map_eq_some_iff.1 hi
  simp only [Prod.mk.injEq] at hi2
  obtain ⟨b1, b2, b3⟩ := hi2
  simp only [hi1, b3]
  rw [if_pos ⟨by omega, trivial, by rw [b1]; omega, by simp only [maxLen]; omega, b2, trivial, rfl⟩, Int.toNat_natCast]
theorem bytes_arr (n : Nat) (c : Int) (id : Nat) (H : AH) (hid : H[id]? = some (.cells 5 1 (fil n n c))) : aBytes Tryd.prog 28 9 (.arr id 0 n) H = some (.v (.string (rep n c))) := by
  have hb : bytesTo Tryd.prog 28 9 = true := by kernel_rfl
  have hs : srcOf 1 H (.arr id 0 n) = some ((List.replicate n c).map fun n => AV.v (.int .u8 n)) := by
    simp only [srcOf, hid]
    rw [if_pos ⟨trivial, by rw [fil_len n n c (Nat.le_refl _)]; omega⟩, List.drop_zero, List.take_of_length_le (by rw [fil_len n n c (Nat.le_refl _)]; exact Nat.le_refl _), fil_full]
  unfold aBytes
  rw [hb, hs]
  simp only [intsOf_map, Option.map_some]
  rfl
end Go.Proofs.YthkiabcdkhpheaaDoor.Ab
