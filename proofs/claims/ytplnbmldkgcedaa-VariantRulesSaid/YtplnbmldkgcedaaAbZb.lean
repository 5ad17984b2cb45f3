/-
  The abstract program logic: blocks that a piece of code has laid are let go behind it.
-/
import Derived.Test.YtplnbmldkgcedaaAbThree
set_option linter.unusedVariables false
set_option maxHeartbeats 4000000
namespace Go.Proofs.Ytplnbmldkgcedaa.Ab

theorem DefOk.cut {c : Cx} {base m : Nat} {ds : List Deferred} (h : DefOk c base ds) : DefOk (c.cut m) base ds := by
  obtain ⟨Ds, e, hn, hall⟩ := h
  refine ⟨Ds, e, hn, fun D hD => ?_⟩
  obtain ⟨h1, h2, h3⟩ := hall D hD
  exact ⟨h1, h2, fun ⟨id, b, g1, g2, g3⟩ => h3 ⟨id, b, (cut_get g1).2, g2, g3⟩⟩

/-- behind the code its own blocks are let go; what they hold stays as it is -/
theorem codeW_letgo {P : Program} {N : Nat} {x : Code} {Q : AExit → AS → Prop} {tm : Nat → AV} {h : AH}
    (H : (∀ t, Below h.length (tm t)) → CodeW P N x (fun e s => ∃ tm', h.length ≤ s.h.length ∧ s.h.take h.length = h ∧ (∀ t, Frz s.h h.length (s.tm t) (tm' t)) ∧ (∀ a, e ≠ .panic a) ∧ Q e ⟨tm', h⟩) ⟨tm, h⟩) : CodeW P N x Q ⟨tm, h⟩ := by
  intro F n base c a hF hst hr R hR
  have hh : c.h = h := hr.h
  subst hh
  refine H (fun t => (hr.tm t).ids) F n base c a hF hst hr R fun e s' c' a' e' hq h1 h2 h3 h4 => ?_
  obtain ⟨tm', g1, g2, g3, g4, g5⟩ := hq
  rw [← h3.h] at g1 g2 g3
  have hst' : St (c'.cut c.h.length) := h2.cut g1 fun b hb => by
    rw [g2] at hb
    obtain ⟨j, hj⟩ := mem_get hb
    exact hst.below hj
  have hev := h1.cut (Nat.le_refl _) g1
  refine hR e ⟨tm', c.h⟩ (c'.cut c.h.length) a' e' g5 hev hst' ⟨g2, h3.size, h3.above, h3.defers.cut, RoundOk.ev hev hr.round, fun t => (g3 t).rel h2 g1 (h3.tm t)⟩ ?_
  cases e with
  | panic a => exact absurd rfl (g4 a)
  | normal => exact h4
  | ret => exact h4
  | exit k => exact h4
theorem frz_upd {h : AH} {m : Nat} {tm tm' : Nat → AV} {d : Nat} {x y : AV} (H : ∀ t, Frz h m (tm t) (tm' t)) (hx : Frz h m x y) : ∀ t, Frz h m (upd tm d x t) (upd tm' d y t) := by
  intro t
  simp only [upd]
  split
  · exact hx
  · exact H t
theorem frz_same {h : AH} {m : Nat} {tm : Nat → AV} (hB : ∀ t, Below m (tm t)) : ∀ t, Frz h m (tm t) (tm t) := fun t => .keep (hB t)
end Go.Proofs.Ytplnbmldkgcedaa.Ab
