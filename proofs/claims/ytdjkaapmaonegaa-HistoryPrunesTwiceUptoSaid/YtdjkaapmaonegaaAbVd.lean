/-
  Plain laws of the histories: the order, sorted lists, insertion, pruning.
-/
import Derived.Test.YtdjkaapmaonegaaAbVb
set_option linter.unusedVariables false
set_option maxHeartbeats 4000000
namespace Go.Proofs.Ytdjkaapmaonegaa.Ab

theorem cmpI_lt {a b : Int} : cmpI a b < 0 ↔ a < b := by
  unfold cmpI; split
  · simp [*]
  · split <;> simp [*] <;> omega
theorem cmpI_zero {a b : Int} : cmpI a b = 0 ↔ a = b := by
  unfold cmpI; split
  · simp; omega
  · split <;> simp <;> omega
theorem cmpI_swap (a b : Int) : cmpI b a = - cmpI a b := by
  unfold cmpI
  by_cases h1 : a < b
  · rw [if_neg (by omega), if_pos (by omega), if_pos h1]; rfl
  · by_cases h2 : a > b
    · rw [if_pos (by omega), if_neg h1, if_pos h2]
    · rw [if_neg (by omega), if_neg (by omega), if_neg h1, if_neg h2]; rfl
theorem cmpI_range (a b : Int) : -1 ≤ cmpI a b ∧ cmpI a b ≤ 1 := by
  unfold cmpI; split
  · omega
  · split <;> omega

theorem cmpZ_zero : ∀ {l m : List Int}, cmpZ l m = 0 ↔ l = m
  | [], [] => by simp [cmpZ]
  | [], _ :: _ => by simp [cmpZ]
  | _ :: _, [] => by simp [cmpZ]
  | a :: l, b :: m => by
    rw [cmpZ]
    by_cases h : cmpI a b = 0
    · rw [if_pos h, cmpZ_zero, cmpI_zero.1 h]; simp
    · rw [if_neg h]
      have : a ≠ b := fun e => h (cmpI_zero.2 e)
      simp [h, this]
theorem cmpZ_swap : ∀ (l m : List Int), cmpZ m l = - cmpZ l m
  | [], [] => rfl
  | [], _ :: _ => rfl
  | _ :: _, [] => rfl
  | a :: l, b :: m => by
    rw [cmpZ, cmpZ, cmpI_swap]
    by_cases h : cmpI a b = 0
    · rw [if_pos (by omega), if_pos h, cmpZ_swap]
    · rw [if_neg (by omega), if_neg h]
theorem cmpZ_range : ∀ (l m : List Int), -1 ≤ cmpZ l m ∧ cmpZ l m ≤ 1
  | [], [] => by decide
  | [], _ :: _ => by simp [cmpZ]
  | _ :: _, [] => by simp [cmpZ]
  | a :: l, b :: m => by
    rw [cmpZ]; split
    · exact cmpZ_range l m
    · exact cmpI_range a b
theorem cmpZ_trans : ∀ {l m n : List Int}, cmpZ l m < 0 → cmpZ m n < 0 → cmpZ l n < 0
  | [], [], _, h, _ => by simp [cmpZ] at h
  | [], _ :: _, [], _, h => by simp [cmpZ] at h
  | [], _ :: _, _ :: _, _, _ => by simp [cmpZ]
  | _ :: _, [], _, h, _ => by simp [cmpZ] at h
  | _ :: _, _ :: _, [], _, h => by simp [cmpZ] at h
  | a :: l, b :: m, c :: n, h, k => by
    rw [cmpZ] at h k ⊢
    by_cases h1 : cmpI a b = 0
    · rw [if_pos h1] at h
      have e := cmpI_zero.1 h1
      subst e
      by_cases h2 : cmpI a c = 0
      · rw [if_pos h2] at k ⊢; exact cmpZ_trans h k
      · rw [if_neg h2] at k ⊢; exact k
    · rw [if_neg h1] at h
      have e1 := cmpI_lt.1 h
      by_cases h2 : cmpI b c = 0
      · have e2 := cmpI_zero.1 h2
        have h3 : cmpI a c < 0 := cmpI_lt.2 (by omega)
        rw [if_neg (by omega)]; exact h3
      · rw [if_neg h2] at k
        have e2 := cmpI_lt.1 k
        have h3 : cmpI a c < 0 := cmpI_lt.2 (by omega)
        rw [if_neg (by omega)]; exact h3

theorem headC_eq (a b : F) : headC a b = if cmpI a.rule b.rule = 0 then cmpI a.ids.length b.ids.length else cmpI a.rule b.rule := by
  unfold headC orI orI orI
  by_cases h : cmpI a.rule b.rule = 0
  · rw [if_pos h, if_pos h]
    by_cases h2 : cmpI (a.ids.length : Int) b.ids.length = 0
    · rw [if_pos h2, h2]
    · rw [if_neg h2]
  · rw [if_neg h, if_neg h]
theorem cmpF_eq (a b : F) : cmpF a b = if cmpI a.rule b.rule = 0 then (if cmpI (a.ids.length : Int) b.ids.length = 0 then cmpZ a.ids b.ids else cmpI a.ids.length b.ids.length) else cmpI a.rule b.rule := by
  rw [cmpF, headC_eq]
  by_cases h : cmpI a.rule b.rule = 0
  · rw [if_pos h, if_pos h]
  · rw [if_neg h, if_neg h, if_neg h]
theorem cmpF_zero {a b : F} : cmpF a b = 0 ↔ a = b := by
  obtain ⟨r, l⟩ := a
  obtain ⟨q, m⟩ := b
  rw [cmpF_eq]
  show (if cmpI r q = 0 then (if cmpI (l.length : Int) m.length = 0 then cmpZ l m else cmpI l.length m.length) else cmpI r q) = 0 ↔ _
  constructor
  · intro h
    by_cases h1 : cmpI r q = 0
    · rw [if_pos h1] at h
      by_cases h2 : cmpI (l.length : Int) m.length = 0
      · rw [if_pos h2] at h
        rw [cmpI_zero.1 h1, cmpZ_zero.1 h]
      · rw [if_neg h2] at h; exact absurd h h2
    · rw [if_neg h1] at h; exact absurd h h1
  · intro h
    cases h
    have e1 : cmpI r r = 0 := cmpI_zero.2 rfl
    have e2 : cmpI (l.length : Int) l.length = 0 := cmpI_zero.2 rfl
    rw [if_pos e1, if_pos e2]
    exact cmpZ_zero.2 rfl
theorem cmpF_self (a : F) : cmpF a a = 0 := cmpF_zero.2 rfl
theorem cmpF_swap (a b : F) : cmpF b a = - cmpF a b := by
  rw [cmpF, cmpF, headC_eq, headC_eq, cmpI_swap a.rule, cmpI_swap (a.ids.length : Int), cmpZ_swap a.ids]
  by_cases h : cmpI a.rule b.rule = 0
  · have h' : - cmpI a.rule b.rule = 0 := by omega
    rw [if_pos h, if_pos h']
    by_cases h2 : cmpI (a.ids.length : Int) b.ids.length = 0
    · have h2' : - cmpI (a.ids.length : Int) b.ids.length = 0 := by omega
      rw [if_pos h2, if_pos h2']
    · have h2' : ¬ - cmpI (a.ids.length : Int) b.ids.length = 0 := by omega
      rw [if_neg h2, if_neg h2']
  · have h' : ¬ - cmpI a.rule b.rule = 0 := by omega
    rw [if_neg h, if_neg h', if_neg h, if_neg h']
theorem cmpF_range (a b : F) : -1 ≤ cmpF a b ∧ cmpF a b ≤ 1 := by
  rw [cmpF_eq]
  by_cases h1 : cmpI a.rule b.rule = 0
  · rw [if_pos h1]
    by_cases h2 : cmpI (a.ids.length : Int) b.ids.length = 0
    · rw [if_pos h2]; exact cmpZ_range _ _
    · rw [if_neg h2]; exact cmpI_range _ _
  · rw [if_neg h1]; exact cmpI_range _ _
theorem cmpF_lt {a b : F} : cmpF a b < 0 ↔ a.rule < b.rule ∨ (a.rule = b.rule ∧ (a.ids.length < b.ids.length ∨ (a.ids.length = b.ids.length ∧ cmpZ a.ids b.ids < 0))) := by
  rw [cmpF, headC_eq]
  by_cases h : cmpI a.rule b.rule = 0
  · have e := cmpI_zero.1 h
    rw [if_pos h]
    by_cases h2 : cmpI (a.ids.length : Int) b.ids.length = 0
    · have e2 := cmpI_zero.1 h2
      rw [if_pos h2]
      constructor
      · intro k; exact .inr ⟨e, .inr ⟨by omega, k⟩⟩
      · rintro (k | ⟨_, k | ⟨_, k⟩⟩)
        · omega
        · omega
        · exact k
    · rw [if_neg h2, cmpI_lt]
      have e2 : (a.ids.length : Int) ≠ b.ids.length := fun e => h2 (cmpI_zero.2 e)
      constructor
      · intro k; exact .inr ⟨e, .inl (by omega)⟩
      · rintro (k | ⟨_, k | ⟨k, _⟩⟩) <;> omega
  · have e : a.rule ≠ b.rule := fun e => h (cmpI_zero.2 e)
    rw [if_neg h, if_neg h, cmpI_lt]
    constructor
    · intro k; exact .inl k
    · rintro (k | ⟨k, _⟩)
      · exact k
      · exact absurd k e
theorem cmpF_trans {a b c : F} (h : cmpF a b < 0) (k : cmpF b c < 0) : cmpF a c < 0 := by
  rw [cmpF_lt] at h k ⊢
  rcases h with h | ⟨h1, h | ⟨h2, h⟩⟩ <;> rcases k with k | ⟨k1, k | ⟨k2, k⟩⟩
  · exact .inl (by omega)
  · exact .inl (by omega)
  · exact .inl (by omega)
  · exact .inl (by omega)
  · exact .inr ⟨by omega, .inl (by omega)⟩
  · exact .inr ⟨by omega, .inl (by omega)⟩
  · exact .inl (by omega)
  · exact .inr ⟨by omega, .inl (by omega)⟩
  · exact .inr ⟨by omega, .inr ⟨by omega, cmpZ_trans h k⟩⟩
theorem cmpF_not_lt {a b : F} : ¬ cmpF a b < 0 ↔ a = b ∨ cmpF b a < 0 := by
  rw [cmpF_swap a b, ← cmpF_zero]
  omega

theorem hasL_mem {l : List F} {f : F} : hasL l f = decide (f ∈ l) := by
  induction l with
  | nil => simp [hasL]
  | cons g l ih =>
    rw [hasL_cons, ih]
    have h1 : (cmpF g f == 0) = decide (g = f) := by
      by_cases e : g = f
      · rw [decide_eq_true e]; simpa using cmpF_zero.2 e
      · rw [decide_eq_false e]; simpa using fun h => e (cmpF_zero.1 h)
    rw [h1]
    by_cases e : g = f
    · simp [e]
    · have e' : ¬ f = g := fun h => e h.symm
      simp [e, e']
theorem eqL_iff : ∀ {l m : List F}, eqL l m = decide (l = m)
  | [], [] => by simp [eqL]
  | [], _ :: _ => by simp [eqL]
  | _ :: _, [] => by simp [eqL]
  | a :: l, b :: m => by
    rw [eqL, eqL_iff]
    have h1 : (cmpF a b == 0) = decide (a = b) := by
      by_cases e : a = b
      · rw [decide_eq_true e]; simpa using cmpF_zero.2 e
      · rw [decide_eq_false e]; simpa using fun h => e (cmpF_zero.1 h)
    rw [h1]
    by_cases e : a = b <;> simp [e]
theorem eqL_self (l : List F) : eqL l l = true := by rw [eqL_iff]; simp

/-! ### sorted lists -/
def sorted (l : List F) : Prop := l.Pairwise fun a b => cmpF a b < 0
theorem chain_some : ∀ {l : List F} {p : F}, chain (some p) l = true ↔ (∀ f ∈ l, f.ok = true) ∧ sorted (p :: l)
  | [], p => by simp [chain, sorted]
  | f :: l, p => by
    rw [chain, Bool.and_eq_true, Bool.and_eq_true, chain_some]
    constructor
    · rintro ⟨⟨h1, h2⟩, h3, h4⟩
      refine ⟨fun g hg => ?_, ?_⟩
      · rcases List.mem_cons.1 hg with rfl | hg
        · exact h1
        · exact h3 g hg
      · refine List.pairwise_cons.2 ⟨fun g hg => ?_, h4⟩
        have h2' : cmpF p f < 0 := by simpa using h2
        rcases List.mem_cons.1 hg with rfl | hg
        · exact h2'
        · exact cmpF_trans h2' ((List.pairwise_cons.1 h4).1 g hg)
    · rintro ⟨h1, h2⟩
      obtain ⟨h3, h4⟩ := List.pairwise_cons.1 h2
      exact ⟨⟨h1 f (by simp), by simpa using h3 f (by simp)⟩, fun g hg => h1 g (by simp [hg]), h4⟩
theorem chain_none {l : List F} : chain none l = true ↔ (∀ f ∈ l, f.ok = true) ∧ sorted l := by
  cases l with
  | nil => simp [chain, sorted]
  | cons f l =>
    rw [chain, Bool.and_eq_true, chain_some]
    constructor
    · rintro ⟨h1, h2, h3⟩
      refine ⟨fun g hg => ?_, h3⟩
      rcases List.mem_cons.1 hg with rfl | hg
      · exact h1
      · exact h2 g hg
    · rintro ⟨h1, h2⟩
      exact ⟨h1 f (by simp), fun g hg => h1 g (by simp [hg]), h2⟩
theorem rightL_iff {l : List F} : rightL l = true ↔ l.length ≤ 5000 ∧ (∀ f ∈ l, f.ok = true) ∧ sorted l := by
  rw [rightL, Bool.and_eq_true, chain_none, decide_eq_true_eq]

theorem sorted.mono {l : List F} (h : sorted l) (f : F) : mono l f := by
  intro i j hi hj hij hlt
  rcases Nat.lt_or_ge i j with h1 | h1
  · exact cmpF_trans (List.pairwise_iff_getElem.1 h i j hi hj h1) hlt
  · have : i = j := by omega
    subst this; exact hlt

theorem lb_le (l : List F) (f : F) : lb l f ≤ l.length := by
  induction l with
  | nil => exact Nat.le_refl _
  | cons g l ih =>
    unfold lb at ih ⊢
    rw [List.takeWhile_cons]
    split
    · rw [List.length_cons, List.length_cons]; omega
    · simp
theorem lb_cons (g : F) (l : List F) (f : F) : lb (g :: l) f = if cmpF g f < 0 then lb l f + 1 else 0 := by
  unfold lb
  rw [List.takeWhile_cons]
  by_cases h : cmpF g f < 0
  · rw [if_pos (by simpa using h), if_pos h, List.length_cons]
  · rw [if_neg (by simpa using h), if_neg h]; rfl

/-- a sorted list with an entry put in -/
def putIn (f : F) : List F → List F
  | [] => [f]
  | g :: l => if cmpF g f < 0 then g :: putIn f l else f :: g :: l
theorem putIn_eq (f : F) : ∀ l : List F, insL l (lb l f) f = putIn f l
  | [] => rfl
  | g :: l => by
    rw [putIn, lb_cons]
    by_cases h : cmpF g f < 0
    · rw [if_pos h, if_pos h, ← putIn_eq f l]; simp [insL]
    · rw [if_neg h, if_neg h]; simp [insL]
theorem mem_putIn {f x : F} : ∀ {l : List F}, x ∈ putIn f l ↔ x = f ∨ x ∈ l
  | [] => by simp [putIn]
  | g :: l => by
    rw [putIn]
    split
    · rw [List.mem_cons, mem_putIn, List.mem_cons]
      constructor
      · rintro (h | h | h)
        · exact .inr (.inl h)
        · exact .inl h
        · exact .inr (.inr h)
      · rintro (h | h | h)
        · exact .inr (.inl h)
        · exact .inl h
        · exact .inr (.inr h)
    · rw [List.mem_cons]
theorem putIn_length {f : F} : ∀ {l : List F}, (putIn f l).length = l.length + 1
  | [] => rfl
  | g :: l => by
    rw [putIn]; split
    · rw [List.length_cons, putIn_length, List.length_cons]
    · rfl
theorem putIn_sorted {f : F} : ∀ {l : List F}, sorted l → f ∉ l → sorted (putIn f l)
  | [], _, _ => by simp [putIn, sorted]
  | g :: l, hs, hn => by
    obtain ⟨h1, h2⟩ := List.pairwise_cons.1 hs
    rw [putIn]
    split
    · rename_i h
      refine List.pairwise_cons.2 ⟨fun x hx => ?_, putIn_sorted h2 fun h => hn (by simp [h])⟩
      rcases mem_putIn.1 hx with rfl | hx
      · exact h
      · exact h1 x hx
    · rename_i h
      have hfg : cmpF f g < 0 := by
        rcases cmpF_not_lt.1 h with e | e
        · exact absurd (by simp [e]) hn
        · exact e
      refine List.pairwise_cons.2 ⟨fun x hx => ?_, hs⟩
      rcases List.mem_cons.1 hx with rfl | hx
      · exact hfg
      · exact cmpF_trans hfg (h1 x hx)

theorem foundL_nil (f : F) : foundL [] f = false := rfl
theorem foundL_cons (g : F) (l : List F) (f : F) : foundL (g :: l) f = if cmpF g f < 0 then foundL l f else decide (g = f) := by
  unfold foundL
  rw [lb_cons]
  by_cases h : cmpF g f < 0
  · rw [if_pos h, if_pos h, List.getElem?_cons_succ]
  · rw [if_neg h, if_neg h, List.getElem?_cons_zero]
    by_cases e : g = f
    · rw [decide_eq_true e]; simpa using cmpF_zero.2 e
    · rw [decide_eq_false e]; simpa using fun h => e (cmpF_zero.1 h)
theorem foundL_mem {f : F} : ∀ {l : List F}, sorted l → foundL l f = decide (f ∈ l)
  | [], _ => by simp [foundL]
  | g :: l, hs => by
    obtain ⟨h1, h2⟩ := List.pairwise_cons.1 hs
    rw [foundL_cons]
    split
    · rename_i h
      rw [foundL_mem h2]
      have : f ≠ g := fun e => by rw [e, cmpF_self] at h; omega
      simp [this]
    · rename_i h
      by_cases e : g = f
      · simp [e]
      · have e' : ¬ f = g := fun h => e h.symm
        have hn : f ∉ l := fun hm => by
          have := h1 f hm
          exact h this
        simp [e, e', hn]

/-! ### adding -/
def addL (l : List F) (f : F) : List F × Int :=
  if rightL l = false ∨ f.ok = false then ([], 2) else if f ∈ l then ([], 8) else if 5000 ≤ l.length then ([], 6) else (putIn f l, 0)

end Go.Proofs.Ytdjkaapmaonegaa.Ab
