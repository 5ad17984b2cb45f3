/-
  Plain laws of histories: entries added one by one, in any order.
-/
import Derived.Test.YtdjkaapmaonegaaAbVe
set_option linter.unusedVariables false
set_option maxHeartbeats 4000000
namespace Go.Proofs.Ytdjkaapmaonegaa.Ab

def addTo (a : List F) (f : F) : List F := if (addL a f).2 = 0 then (addL a f).1 else a
def hist (l : List F) : List F := l.foldl addTo []

structure HistOk (a l : List F) : Prop where
  sorted : sorted a
  ok : ∀ x ∈ a, x.ok = true
  mem : ∀ x, x ∈ a ↔ x ∈ l ∧ x.ok = true
  len : a.length ≤ l.length

theorem HistOk.right {a l : List F} (h : HistOk a l) (hl : l.length ≤ 5000) : rightL a = true := rightL_iff.2 ⟨Nat.le_trans h.len hl, h.ok, h.sorted⟩

theorem addL_bad {a : List F} {f : F} (hk : f.ok = false) : addL a f = ([], 2) := by rw [addL, if_pos (.inr hk)]
theorem addL_dup {a : List F} {f : F} (hr : rightL a = true) (hk : f.ok = true) (hm : f ∈ a) : addL a f = ([], 8) := by
  rw [addL, if_neg (by rw [hr, hk]; simp), if_pos hm]
theorem addL_new {a : List F} {f : F} (hr : rightL a = true) (hk : f.ok = true) (hm : f ∉ a) (hl : a.length < 5000) : addL a f = (putIn f a, 0) := by
  rw [addL, if_neg (by rw [hr, hk]; simp), if_neg hm, if_neg (by omega)]

theorem addTo_bad {a : List F} {f : F} (hk : f.ok = false) : addTo a f = a := by rw [addTo, addL_bad hk]; rfl
theorem addTo_dup {a : List F} {f : F} (hr : rightL a = true) (hk : f.ok = true) (hm : f ∈ a) : addTo a f = a := by rw [addTo, addL_dup hr hk hm]; rfl
theorem addTo_new {a : List F} {f : F} (hr : rightL a = true) (hk : f.ok = true) (hm : f ∉ a) (hl : a.length < 5000) : addTo a f = putIn f a := by rw [addTo, addL_new hr hk hm hl]; rfl

theorem HistOk.add {a l : List F} (h : HistOk a l) (f : F) (hl : l.length < 5000) : HistOk (addTo a f) (l ++ [f]) := by
  have hr := h.right (by omega)
  have hlen : (l ++ [f]).length = l.length + 1 := by simp
  cases hk : f.ok with
  | false =>
    rw [addTo_bad hk]
    refine ⟨h.sorted, h.ok, fun x => ?_, by have := h.len; omega⟩
    rw [h.mem, List.mem_append, List.mem_singleton]
    constructor
    · rintro ⟨h1, h2⟩; exact ⟨.inl h1, h2⟩
    · rintro ⟨h1 | h1, h2⟩
      · exact ⟨h1, h2⟩
      · subst h1; rw [hk] at h2; cases h2
  | true =>
    by_cases hm : f ∈ a
    · rw [addTo_dup hr hk hm]
      refine ⟨h.sorted, h.ok, fun x => ?_, by have := h.len; omega⟩
      rw [h.mem, List.mem_append, List.mem_singleton]
      constructor
      · rintro ⟨h1, h2⟩; exact ⟨.inl h1, h2⟩
      · rintro ⟨h1 | h1, h2⟩
        · exact ⟨h1, h2⟩
        · subst h1; exact (h.mem _).1 hm
    · rw [addTo_new hr hk hm (by have := h.len; omega)]
      refine ⟨putIn_sorted h.sorted hm, fun x hx => ?_, fun x => ?_, by have := h.len; rw [putIn_length]; omega⟩
      · rcases mem_putIn.1 hx with rfl | hx
        · exact hk
        · exact h.ok x hx
      · rw [mem_putIn, h.mem, List.mem_append, List.mem_singleton]
        constructor
        · rintro (rfl | ⟨h1, h2⟩)
          · exact ⟨.inr rfl, hk⟩
          · exact ⟨.inl h1, h2⟩
        · rintro ⟨h1 | h1, h2⟩
          · exact .inr ⟨h1, h2⟩
          · exact .inl h1

theorem histOk_foldl : ∀ (l a pre : List F), HistOk a pre → pre.length + l.length ≤ 5000 → HistOk (l.foldl addTo a) (pre ++ l)
  | [], a, pre, h, _ => by simpa using h
  | f :: l, a, pre, h, hl => by
    rw [List.length_cons] at hl
    have := histOk_foldl l (addTo a f) (pre ++ [f]) (h.add f (by omega)) (by simp; omega)
    simpa using this
theorem hist_ok (l : List F) (hl : l.length ≤ 5000) : HistOk (hist l) l := by
  have := histOk_foldl l [] [] ⟨List.Pairwise.nil, by simp, by simp, Nat.le_refl _⟩ (by simpa using hl)
  simpa [hist] using this
theorem hist_take_succ {l : List F} {i : Nat} (h : i < l.length) : hist (l.take (i + 1)) = addTo (hist (l.take i)) l[i] := by
  rw [List.take_succ_eq_append_getElem h, hist, List.foldl_append]; rfl

theorem sorted_ext : ∀ {a b : List F}, sorted a → sorted b → (∀ x, x ∈ a ↔ x ∈ b) → a = b
  | [], [], _, _, _ => rfl
  | [], b :: m, _, _, h => absurd ((h b).2 (by simp)) (by simp)
  | a :: l, [], _, _, h => absurd ((h a).1 (by simp)) (by simp)
  | a :: l, b :: m, ha, hb, h => by
    obtain ⟨h1, h2⟩ := List.pairwise_cons.1 ha
    obtain ⟨h3, h4⟩ := List.pairwise_cons.1 hb
    have irr : ∀ x, ¬ cmpF x x < 0 := fun x hx => by rw [cmpF_self] at hx; omega
    have e : a = b := by
      rcases List.mem_cons.1 ((h a).1 (by simp)) with e | e
      · exact e
      · rcases List.mem_cons.1 ((h b).2 (by simp)) with e' | e'
        · exact e'.symm
        · exact absurd (cmpF_trans (h3 a e) (h1 b e')) (irr b)
    subst e
    rw [sorted_ext h2 h4 fun x => ?_]
    constructor
    · intro hx
      rcases List.mem_cons.1 ((h x).1 (by simp [hx])) with e | e
      · subst e; exact absurd (h1 _ hx) (irr _)
      · exact e
    · intro hx
      rcases List.mem_cons.1 ((h x).2 (by simp [hx])) with e | e
      · subst e; exact absurd (h3 _ hx) (irr _)
      · exact e
theorem hist_reverse (l : List F) (hl : l.length ≤ 5000) : hist l.reverse = hist l := by
  have h1 := hist_ok l hl
  have h2 := hist_ok l.reverse (by simpa using hl)
  refine sorted_ext h2.sorted h1.sorted fun x => ?_
  rw [h1.mem, h2.mem, List.mem_reverse]

def inB (l : List F) (other : F) : Bool := l.any fun f => f.ok && (cmpF f other == 0)
theorem inB_take_succ {l : List F} {i : Nat} (h : i < l.length) (other : F) : inB (l.take (i + 1)) other = (inB (l.take i) other || ((l[i]).ok && (cmpF l[i] other == 0))) := by
  rw [List.take_succ_eq_append_getElem h, inB, List.any_append]; simp [inB]
theorem inB_hist (l : List F) (other : F) (hl : l.length ≤ 5000) : decide (other ∈ hist l) = inB l other := by
  have h1 := hist_ok l hl
  by_cases h : other ∈ hist l
  · rw [decide_eq_true h]
    obtain ⟨h2, h3⟩ := (h1.mem _).1 h
    symm
    rw [inB, List.any_eq_true]
    exact ⟨other, h2, by rw [h3, cmpF_self]; rfl⟩
  · rw [decide_eq_false h]
    symm
    rw [inB, List.any_eq_false]
    intro x hx hh
    simp only [Bool.and_eq_true, beq_iff_eq] at hh
    have := cmpF_zero.1 hh.2
    subst this
    exact h ((h1.mem _).2 ⟨hx, hh.1⟩)
theorem right_one (f : F) : rightL [f] = f.ok := by simp [rightL, chain]
theorem small_hist {l : List F} (hs : small l) (hl : l.length ≤ 5000) : small (hist l) := by
  have h := hist_ok l hl
  exact ⟨Nat.le_trans h.len hs.1, fun x hx => hs.2 x ((h.mem x).1 hx).1⟩
theorem small_take {l : List F} (hs : small l) (i : Nat) : small (l.take i) := ⟨by rw [List.length_take]; have := hs.1; omega, fun x hx => hs.2 x (List.mem_of_mem_take hx)⟩
theorem small_reverse {l : List F} (hs : small l) : small l.reverse := ⟨by simpa using hs.1, fun x hx => hs.2 x (by simpa using hx)⟩
theorem rev_get {l : List F} {i : Nat} (h : i < l.length) : l.reverse[i]'(by simpa using h) = l[l.length - 1 - i]'(by omega) := by
  rw [List.getElem_reverse]
/-- behind the first part only this is known -/
theorem codeW_seq_cut {P : Program} {N : Nat} {x y : Code} {Q : AExit → AS → Prop} {s : AS} (J : AS → Prop) (h1 : ∀ s, J s → CodeW P N y Q s) (h2 : CodeW P N x (AExit.then J Q) s) : CodeW P N (.seq x y) Q s := by
  refine codeW_seq (h2.mono fun e s' hq => ?_)
  cases e with
  | normal => exact h1 s' hq
  | _ => exact hq
end Go.Proofs.Ytdjkaapmaonegaa.Ab
