/-
  The abstract program logic: tokens for nil slices that lie in cells or come as arguments; maps of numbers.
-/
import Derived.Test.YtplnbmldkgcedaaAbR
set_option linter.unusedVariables false
set_option maxHeartbeats 4000000
namespace Go.Proofs.Ytplnbmldkgcedaa.Ab

theorem add_token {c : Cx} (hs : St c) (e s : Nat) : Ev c (c.add c.w (.grow e s 0) none) ∧ St (c.add c.w (.grow e s 0) none) := by
  have hg := Grows.refl c.w
  have ho : ∀ B, (none : Option Nat) = some B → c.w.heap.size ≤ B := fun B h => by cases h
  have hρ : (c.add c.w (.grow e s 0) none).ρ c.h.length = none := by simp [Cx.add]
  exact ⟨Ev.add hs hg (.grow e s 0) none ho, St.add hs hg _ _ ho (fun B hB => by rw [hρ] at hB; cases hB)⟩

theorem tokenCell {c : Cx} (hst : St c) (id ty e s : Nat) (hb : c.h[id]? = some (.cells ty 1 [.v (.slice none 0 0)])) :
    ∃ c2, Ev c c2 ∧ St c2 ∧ c2.h = (c.h ++ [AB.grow e s 0]).set id (AB.cells ty 1 [.sl s [] (some c.h.length)]) ∧ c2.w = c.w := by
  obtain ⟨hev, hst1⟩ := add_token hst e s
  have hlt := lt_of_get hb
  have hb1 : (c.add c.w (.grow e s 0) none).h[id]? = some (.cells ty 1 [.v (.slice none 0 0)]) := by
    simp only [Cx.add]; rw [List.getElem?_append_left hlt]; exact hb
  obtain ⟨B, cur, hρ, hcur, h3, h4⟩ := hst1.blocks id _ hb1
  have hev2 := Ev.turn (b' := .cells ty 1 [.sl s [] (some c.h.length)]) hst1 hb1 rfl hρ (w := c.w) rfl rfl rfl rfl (fun _ _ => rfl) ⟨_, rfl, rfl⟩
  have htok : ((c.add c.w (.grow e s 0) none).turn c.w id (.cells ty 1 [.sl s [] (some c.h.length)])).tokNil c.h.length s := by
    refine ⟨by simp [Cx.turn, Cx.add], fun e2 s2 n2 hg2 => ?_⟩
    simp only [Cx.turn, Cx.add] at hg2
    rw [List.getElem?_set_ne (by omega), List.getElem?_append_right (Nat.le_refl _), Nat.sub_self] at hg2
    simp at hg2
    exact ⟨hg2.2.1.symm, fun _ => by simp [Cx.turn, Cx.add]⟩
  have hst2 := St.turn (b' := .cells ty 1 [.sl s [] (some c.h.length)]) hst1 hb1 rfl hρ (w := c.w) (fun _ _ => rfl) hev2 ⟨B, cur, hρ, hcur, (by simp [AV.cells]), by
    intro j a' hj
    cases j with
    | zero =>
      simp only [flat, List.flatMap_cons, List.flatMap_nil, AV.cells, List.append_nil, List.getElem?_cons_zero, Option.some.injEq] at hj
      subst hj
      obtain ⟨u, g1, g2, g3⟩ := h4 0 _ (by simp [flat, AV.cells]; rfl)
      cases g3
      exact ⟨_, g1, g2, .slnil _ _ fun b hb => by cases hb; exact htok⟩
    | succ j => simp [flat, AV.cells] at hj⟩
  exact ⟨_, Ev.trans hst hev hev2, hst2, rfl, rfl⟩

/-- a nil slice in a cell gets a token -/
theorem codeW_tokenCell {P : Program} {N : Nat} {code : Code} {Q : AExit → AS → Prop} {tm : Nat → AV} {h : AH} (id ty e s : Nat) (hb : h[id]? = some (.cells ty 1 [.v (.slice none 0 0)]))
    (H : CodeW P N code Q ⟨tm, (h ++ [AB.grow e s 0]).set id (AB.cells ty 1 [.sl s [] (some h.length)])⟩) : CodeW P N code Q ⟨tm, h⟩ := by
  intro F n base c a hF hst hr R hR
  have hh : c.h = h := hr.h
  subst hh
  obtain ⟨c2, hev, hst2, hh2, hw⟩ := tokenCell hst id ty e s hb
  rw [← hw]
  exact H F n base c2 a hF hst2 ⟨hh2, hr.size, Nat.le_trans hr.above hev.size, hr.defers.ev hev, RoundOk.ev hev hr.round, fun t => (hr.tm t).ev hst hev⟩ R fun e' s' c' a' ex hq h1 h2 h3 h4 => hR e' s' c' a' ex hq (Ev.trans hst hev h1) h2 h3 h4

theorem funW_tokenCell {P : Program} {fv : AV} {args : List AV} {h : AH} {Q : AOut → AH → Prop} (id ty e s : Nat) (hb : h[id]? = some (.cells ty 1 [.v (.slice none 0 0)]))
    (H : FunW P fv args ((h ++ [AB.grow e s 0]).set id (AB.cells ty 1 [.sl s [] (some h.length)])) Q) : FunW P fv args h Q := by
  intro F n c v vals hF hs hh hv hvs o a next Qx h1 h2
  subst hh
  obtain ⟨c2, hev, hst2, hh2, hw⟩ := tokenCell hs id ty e s hb
  rw [← hw]
  exact H F n c2 v vals hF hst2 hh2 (hv.ev hs hev) (hvs.ev hs hev) o a next Qx (fun r c' x hQ he => h1 r c' x hQ (Ev.trans hs hev he)) (fun r c' x hQ he => h2 r c' x hQ (Ev.trans hs hev he))

/-- a nil slice as first argument gets a token -/
theorem funW_nilArg {P : Program} {fv : AV} {args : List AV} {h : AH} {Q : AOut → AH → Prop} (e s : Nat) (H : FunW P fv (.sl s [] (some h.length) :: args) (h ++ [.grow e s 0]) Q) : FunW P fv (.v (.slice none 0 0) :: args) h Q := by
  intro F n c v vals hF hs hh hv hvs o a next Qx h1 h2
  subst hh
  obtain ⟨hev, hst1⟩ := add_token hs e s
  refine H F n (c.add c.w (.grow e s 0) none) v vals hF hst1 rfl (hv.ev hs hev) ⟨hvs.1, fun j a u hj hu => ?_⟩ o a next Qx (fun r c' x hQ he => h1 r c' x hQ (Ev.trans hs hev he)) (fun r c' x hQ he => h2 r c' x hQ (Ev.trans hs hev he))
  cases j with
  | zero =>
    simp only [List.getElem?_cons_zero, Option.some.injEq] at hj
    subst hj
    have := hvs.2 0 _ u rfl hu
    cases this
    exact .slnil _ _ (tokNil_new e s)
  | succ j => exact (hvs.2 (j + 1) a u (by simpa using hj) hu).ev hs hev

theorem frz_none {h : AH} {m : Nat} : ∀ (j : Nat) (a a' : AV), ([] : List AV)[j]? = some a → ([] : List AV)[j]? = some a' → Frz h m a a' := fun j a a' h1 => by simp at h1
theorem frz_one {h : AH} {m : Nat} {x y : AV} (hf : Frz h m x y) : ∀ (j : Nat) (a a' : AV), [x][j]? = some a → [y][j]? = some a' → Frz h m a a'
  | 0, a, a', h1, h2 => by simp at h1 h2; subst h1; subst h2; exact hf
  | j + 1, a, a', h1, _ => by simp at h1
theorem frz_cons {h : AH} {m : Nat} {x y : AV} {l l' : List AV} (hf : Frz h m x y) (hl : ∀ (j : Nat) (a a' : AV), l[j]? = some a → l'[j]? = some a' → Frz h m a a') : ∀ (j : Nat) (a a' : AV), (x :: l)[j]? = some a → (y :: l')[j]? = some a' → Frz h m a a'
  | 0, a, a', h1, h2 => by simp at h1 h2; subst h1; subst h2; exact hf
  | j + 1, a, a', h1, h2 => hl j a a' (by simpa using h1) (by simpa using h2)

theorem endQ_none (Q : AExit → AS → Prop) (s : AS) : EndQ Q s none = Q .normal s := rfl

/-! ### maps of numbers -/

def ikey (n : Int) : Value := .int .i64 n
def imap (l : List (Int × AV)) : List (Value × AV) := l.map fun p => (ikey p.1, p.2)
def igetA (k : Int) : List (Int × AV) → Option AV
  | [] => none
  | p :: l => if k = p.1 then some p.2 else igetA k l

theorem same_int (a b : Int) : Instr.sameNow (.int .i64) (ikey a) (ikey b) = some (a == b) := rfl

theorem findA_int (k : Int) : ∀ l : List (Int × AV), findA (.int .i64) (.int .i64 k) (imap l) = some (igetA k l)
  | [] => rfl
  | p :: l => by
    have h := same_int k p.1
    have e : imap (p :: l) = (ikey p.1, p.2) :: imap l := rfl
    rw [e]
    simp only [findA, igetA]
    rw [show Instr.sameNow (.int .i64) (.int .i64 k) (ikey p.1) = some (k == p.1) from rfl]
    by_cases hk : k = p.1
    · rw [if_pos hk, show (k == p.1) = true by simpa using hk]
    · rw [if_neg hk, show (k == p.1) = false by simpa using hk]
      exact findA_int k l
theorem updA_int (k : Int) (v : AV) : ∀ l : List (Int × AV), igetA k l = none → updA (.int .i64) (.int .i64 k) v (imap l) = some (imap (l ++ [(k, v)]))
  | [], _ => rfl
  | p :: l, hn => by
    have e : imap (p :: l) = (ikey p.1, p.2) :: imap l := rfl
    rw [e]
    simp only [igetA] at hn
    split at hn
    · cases hn
    · rename_i hk
      simp only [updA]
      rw [show Instr.sameNow (.int .i64) (.int .i64 k) (ikey p.1) = some (k == p.1) from rfl, show (k == p.1) = false by simpa using hk, updA_int k v l hn]
      rfl
end Go.Proofs.Ytplnbmldkgcedaa.Ab
