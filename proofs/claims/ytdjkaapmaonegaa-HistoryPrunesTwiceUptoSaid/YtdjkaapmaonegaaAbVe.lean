/-
  A nil slice as a slice without elements.
-/
import Derived.Test.YtdjkaapmaonegaaAbVd
set_option linter.unusedVariables false
set_option maxHeartbeats 4000000
namespace Go.Proofs.Ytdjkaapmaonegaa.Ab

theorem rel_nil_sl {c : Cx} {x : Value} (s : Nat) (h : Rel c (.v (.slice none 0 0)) x) : Rel c (.sl s [] none) x := by
  cases h
  exact .slnil s none fun b hb => by cases hb

theorem codeW_nilSl {P : Program} {N : Nat} {code : Code} {Q : AExit → AS → Prop} {tm : Nat → AV} {h : AH} (d s : Nat) (hd : tm d = .v (.slice none 0 0)) (H : CodeW P N code Q ⟨upd tm d (.sl s [] none), h⟩) : CodeW P N code Q ⟨tm, h⟩ := by
  intro F n base c a hF hst hr R hR
  refine H F n base c a hF hst ⟨hr.h, hr.size, hr.above, hr.defers, hr.round, fun t => ?_⟩ R hR
  show Rel c (if t = d then _ else tm t) _
  split
  · rename_i ht
    subst ht
    have h1 := hr.tm t
    simp only [hd] at h1
    exact rel_nil_sl s h1
  · exact hr.tm t

theorem pure_nilArg {P : Program} {f : FuncId} {args : List AV} {r : AV} (s : Nat) (H : Pure P f (.sl s [] none :: args) r) : Pure P f (.v (.slice none 0 0) :: args) r := by
  intro h
  refine ⟨(H h).1, fun F n c vals hF hst hh hvals => (H h).2 F n c vals hF hst hh ⟨hvals.1, fun j a u ha hu => ?_⟩⟩
  cases j with
  | zero =>
    simp only [List.getElem?_cons_zero, Option.some.injEq] at ha
    subst ha
    exact rel_nil_sl s (hvals.2 0 _ u rfl hu)
  | succ j => exact hvals.2 (j + 1) a u (by simpa using ha) hu

/-- the entries of the example -/
def liveA : F := ⟨0, [2, 1]⟩
def liveB : F := ⟨0, [1, 2]⟩
theorem fits_get {l : List F} (h : fits l) {k : Nat} (hk : k < l.length) : (l[k]).ids.length ≤ 9223372036854775807 := h _ (List.getElem_mem hk)
theorem small_add {l : List F} {f : F} (hs : small l) (hl : l.length ≤ 900000) (hf : f.ids.length ≤ 9223372036854775807) : small (addL l f).1 := by
  unfold addL
  split
  · exact ⟨by simp, by simp⟩
  · split
    · exact ⟨by simp, by simp⟩
    · split
      · exact ⟨by simp, by simp⟩
      · refine ⟨by rw [putIn_length]; omega, fun g hg => ?_⟩
        rcases mem_putIn.1 hg with rfl | hg
        · exact hf
        · exact hs.2 g hg
theorem small_prune {l : List F} (hs : small l) (ids : List Int) : small (pruneL l ids) :=
  ⟨Nat.le_trans (List.length_filter_le _ _) hs.1, fun g hg => hs.2 g (List.mem_filter.1 hg).1⟩

theorem order_law (a b c : F) (h1 : ¬ cmpF a b > 0) (h2 : ¬ cmpF b c > 0) : cmpF a c ≤ 0 ∧ (cmpF a c < 0 ∨ (cmpF a b = 0 ∧ cmpF b c = 0)) := by
  by_cases e1 : cmpF a b = 0
  · have := cmpF_zero.1 e1
    subst this
    by_cases e2 : cmpF a c = 0
    · exact ⟨by omega, .inr ⟨e1, e2⟩⟩
    · exact ⟨by omega, .inl (by omega)⟩
  · by_cases e2 : cmpF b c = 0
    · have := cmpF_zero.1 e2
      subst this
      exact ⟨by omega, .inl (by omega)⟩
    · have := cmpF_trans (a := a) (b := b) (c := c) (by omega) (by omega)
      exact ⟨by omega, .inl this⟩
end Go.Proofs.Ytdjkaapmaonegaa.Ab
