/-
  The abstract program logic: a nil slice that is about to grow gets a token of its own.
-/
import Derived.Test.YtplnbmldkgcedaaAbP
set_option linter.unusedVariables false
set_option maxHeartbeats 4000000
namespace Go.Proofs.Ytplnbmldkgcedaa.Ab

theorem tokNil_new {c : Cx} (e s : Nat) : ∀ b, some c.h.length = some b → (c.add c.w (.grow e s 0) none).tokNil b s := by
  intro b hb
  cases hb
  refine ⟨by simp [Cx.add], fun e2 s2 n2 hg2 => ?_⟩
  simp [Cx.add] at hg2
  exact ⟨hg2.2.1.symm, fun _ => by simp [Cx.add]⟩

theorem codeW_token {P : Program} {N : Nat} {code : Code} {Q : AExit → AS → Prop} {tm : Nat → AV} {h : AH} (d e s : Nat) (hd : tm d = .v (.slice none 0 0))
    (H : CodeW P N code Q ⟨upd tm d (.sl s [] (some h.length)), h ++ [.grow e s 0]⟩) : CodeW P N code Q ⟨tm, h⟩ := by
  intro F n base c a hF hst hr R hR
  have hh : c.h = h := hr.h
  subst hh
  have hg := Grows.refl c.w
  have ho : ∀ B, (none : Option Nat) = some B → c.w.heap.size ≤ B := fun B h => by cases h
  have hev := Ev.add hst hg (.grow e s 0) none ho
  have hρ : (c.add c.w (.grow e s 0) none).ρ c.h.length = none := by simp [Cx.add]
  have hst' : St (c.add c.w (.grow e s 0) none) := St.add hst hg _ _ ho (fun B hB => by rw [hρ] at hB; cases hB)
  refine H F n base (c.add c.w (.grow e s 0) none) a hF hst' ⟨rfl, hr.size, hr.above, hr.defers.ev hev, RoundOk.ev hev hr.round, fun t => ?_⟩ R fun e' s' c' a' ex hq h1 h2 h3 h4 => hR e' s' c' a' ex hq (Ev.trans hst hev h1) h2 h3 h4
  simp only [upd]
  split
  · rename_i ht
    subst ht
    have h1 := hr.tm t
    simp only [hd] at h1
    generalize hu : a.tmps.getD t undef = u at h1
    cases h1
    exact .slnil _ _ (tokNil_new e s)
  · exact (hr.tm t).ev hst hev
end Go.Proofs.Ytplnbmldkgcedaa.Ab
