/-
  Agreeing on a key is symmetric.
-/
import Derived.Test.YtoccpldnegloaaaAbD8
set_option linter.unusedSimpArgs false
set_option linter.unusedVariables false
set_option maxHeartbeats 4000000
namespace Go.Proofs.Ytoccpldnegloaaa.Ab
open Go.Proofs

theorem bytesLess_self : ∀ l : List UInt8, Op.bytesLess l l = false
  | [] => rfl
  | a :: l => by simp [Op.bytesLess, bytesLess_self l]
theorem cmpI_zero {a b : Int} : cmpI a b = 0 ↔ a = b := by
  unfold cmpI
  by_cases h1 : a < b
  · rw [if_pos h1]; constructor <;> intro h <;> omega
  · rw [if_neg h1]
    by_cases h2 : a > b
    · rw [if_pos h2]; constructor <;> intro h <;> omega
    · rw [if_neg h2]; constructor <;> intro h <;> omega
theorem cmpS_zero {a b : ByteArray} : cmpS a b = 0 ↔ a.toList = b.toList := by
  unfold cmpS
  by_cases h1 : Op.bytesLess a.toList b.toList = true
  · rw [if_pos h1]
    refine ⟨fun h => by omega, fun h => ?_⟩
    rw [h, bytesLess_self] at h1; cases h1
  · rw [if_neg h1]
    have h1' : Op.bytesLess a.toList b.toList = false := by simpa using h1
    rw [h1', Bool.false_or]
    by_cases h2 : a.toList = b.toList
    · have : (a.toList == b.toList) = true := by simpa using h2
      rw [this]
      exact ⟨fun _ => h2, fun _ => rfl⟩
    · have : (a.toList == b.toList) = false := by simpa using h2
      rw [this]
      exact ⟨fun h => by simp at h, fun h => absurd h h2⟩
theorem nz (a : Int) : (a != 0) = true ↔ ¬ a = 0 := by simp
theorem or3_zero {a b c : Int} : or3 a b c = 0 ↔ a = 0 ∧ b = 0 ∧ c = 0 := by
  unfold or3 orL
  by_cases h1 : a = 0
  · rw [if_neg (by rw [nz]; simpa using h1)]
    unfold orL
    by_cases h2 : b = 0
    · rw [if_neg (by rw [nz]; simpa using h2)]
      unfold orL
      by_cases h3 : c = 0
      · rw [if_neg (by rw [nz]; simpa using h3)]
        simp [orL, h1, h2, h3]
      · rw [if_pos ((nz c).2 h3)]; simp [h1, h2, h3]
    · rw [if_pos ((nz b).2 h2)]; simp [h1, h2]
  · rw [if_pos ((nz a).2 h1)]; simp [h1]
theorem cmpT_zero (p t : T) : cmpT p t = 0 ↔ rankK p.kind = rankK t.kind ∧ (if rankK p.kind = 0 ∨ rankK p.kind = 1 then p.int = t.int else if rankK p.kind = 2 then (p.args.length = t.args.length ∧ p.name.toList = t.name.toList ∧ cmpL p.args t.args = 0) else (p.kind = t.kind ∧ p.int = t.int ∧ p.name.toList = t.name.toList)) := by
  rw [cmpT_eq]
  by_cases h1 : rankK p.kind = rankK t.kind
  · rw [if_neg (by rw [nz]; exact fun h => h (cmpI_zero.2 h1))]
    by_cases h2 : rankK p.kind = 0 ∨ rankK p.kind = 1
    · rw [if_pos h2, if_pos h2, cmpI_zero]; exact ⟨fun h => ⟨h1, h⟩, fun h => h.2⟩
    · rw [if_neg h2, if_neg h2]
      by_cases h3 : rankK p.kind = 2
      · rw [if_pos h3, if_pos h3]
        by_cases h4 : (p.args.length : Int) = t.args.length
        · rw [if_neg (by rw [nz]; exact fun h => h (cmpI_zero.2 h4))]
          by_cases h5 : p.name.toList = t.name.toList
          · rw [if_neg (by rw [nz]; exact fun h => h (cmpS_zero.2 h5))]
            exact ⟨fun h => ⟨h1, by omega, h5, h⟩, fun h => h.2.2.2⟩
          · have h5' : ¬ cmpS p.name t.name = 0 := fun h => h5 (cmpS_zero.1 h)
            rw [if_pos ((nz _).2 h5')]
            exact ⟨fun h => absurd h h5', fun h => absurd h.2.2.1 h5⟩
        · have h4' : ¬ cmpI (p.args.length : Int) t.args.length = 0 := fun h => h4 (cmpI_zero.1 h)
          rw [if_pos ((nz _).2 h4')]
          exact ⟨fun h => absurd h h4', fun h => absurd (by omega) h4⟩
      · rw [if_neg h3, if_neg h3, or3_zero, cmpI_zero, cmpI_zero, cmpS_zero]; exact ⟨fun h => ⟨h1, h⟩, fun h => h.2⟩
  · have h1' : ¬ cmpI (rankK p.kind) (rankK t.kind) = 0 := fun h => h1 (cmpI_zero.1 h)
    rw [if_pos ((nz _).2 h1')]
    exact ⟨fun h => absurd h h1', fun h => absurd h.1 h1⟩
theorem cmpL_cons {a b : T} {l m : List T} : cmpL (a :: l) (b :: m) = 0 ↔ cmpT a b = 0 ∧ cmpL l m = 0 := by
  simp only [cmpL]
  by_cases h : cmpT a b = 0
  · rw [if_neg (by rw [nz]; simpa using h)]
    exact ⟨fun h' => ⟨h, h'⟩, fun h' => h'.2⟩
  · rw [if_pos ((nz _).2 h)]
    exact ⟨fun h' => absurd h' h, fun h' => absurd h'.1 h⟩
mutual
theorem cmpT_symm : ∀ (p t : T), cmpT p t = 0 → cmpT t p = 0
  | .mk k i n l, t, h => by
    rw [cmpT_zero] at h ⊢
    obtain ⟨h1, h2⟩ := h
    refine ⟨h1.symm, ?_⟩
    rw [← h1]
    by_cases c1 : rankK (T.mk k i n l).kind = 0 ∨ rankK (T.mk k i n l).kind = 1
    · rw [if_pos c1] at h2 ⊢; exact h2.symm
    · rw [if_neg c1] at h2 ⊢
      by_cases c2 : rankK (T.mk k i n l).kind = 2
      · rw [if_pos c2] at h2 ⊢
        obtain ⟨g1, g2, g3⟩ := h2
        exact ⟨g1.symm, g2.symm, cmpL_symm l t.args g3⟩
      · rw [if_neg c2] at h2 ⊢
        obtain ⟨g1, g2, g3⟩ := h2
        exact ⟨g1.symm, g2.symm, g3.symm⟩
theorem cmpL_symm : ∀ (l m : List T), cmpL l m = 0 → cmpL m l = 0
  | [], [], h => by simp only [cmpL]
  | [], _ :: _, h => by simp [cmpL] at h
  | _ :: _, [], h => by simp [cmpL] at h
  | a :: l, b :: m, h => by
    rw [cmpL_cons] at h ⊢
    exact ⟨cmpT_symm a b h.1, cmpL_symm l m h.2⟩
end
theorem cmpT_symmB (p t : T) : (cmpT p t == 0) = (cmpT t p == 0) := by
  rw [Bool.eq_iff_iff, beq_iff_eq, beq_iff_eq]
  exact ⟨cmpT_symm p t, cmpT_symm t p⟩
theorem agreeB_symm (a b : G) (k : Ky) : agreeB a b k = agreeB b a k := by
  have e : agreeAt k.arity a.args b.args = agreeAt k.arity b.args a.args := by
    funext n
    simp only [agreeAt]
    congr 1
    simp only [sameAt]
    cases a.args[n.toNat]? with
    | none => cases b.args[n.toNat]? <;> rfl
    | some x => cases b.args[n.toNat]? with
      | none => rfl
      | some y => exact cmpT_symmB x y
  simp only [agreeB, e]
  cases headOk a k <;> cases headOk b k <;> rfl
end Go.Proofs.Ytoccpldnegloaaa.Ab
