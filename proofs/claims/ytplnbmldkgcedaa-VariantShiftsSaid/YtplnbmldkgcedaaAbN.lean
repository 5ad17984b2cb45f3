/-
  The abstract program logic: what is left of a call: results, blocks that are let go; a function's contract out of its body.
-/
import Derived.Test.YtplnbmldkgcedaaAbL
import Derived.DefersIn
set_option linter.unusedVariables false
set_option maxHeartbeats 4000000
namespace Go.Proofs.Ytplnbmldkgcedaa.Ab

/-- all blocks that a value names have numbers below n -/
inductive Below (n : Nat) : AV → Prop
  | v (x : Value) : Below n (.v x)
  | junk : Below n .junk
  | agg (l : List AV) (h : ∀ a ∈ l, Below n a) : Below n (.agg l)
  | tup (l : List AV) (h : ∀ a ∈ l, Below n a) : Below n (.tup l)
  | sl (s : Nat) (xs : List AV) (own : Option Nat) (h : ∀ a ∈ flat xs, Below n a) (hb : ∀ b, own = some b → b < n) : Below n (.sl s xs own)
  | pin (s : Nat) (xs : List AV) (k off : Nat) (h : ∀ a ∈ flat xs, Below n a) : Below n (.pin s xs k off)
  | ptr (id k off : Nat) (h : id < n) : Below n (.ptr id k off)
  | arr (id lo len : Nat) (h : id < n) : Below n (.arr id lo len)
  | mp (id : Nat) (h : id < n) : Below n (.mp id)
  | fn (f : Fn) (first cap : List AV) (h1 : ∀ a ∈ first, Below n a) (h2 : ∀ a ∈ cap, Below n a) : Below n (.fn f first cap)
  | ifc (t : TypeId) (x : AV) (h : Below n x) : Below n (.ifc t x)

theorem mem_get {α : Type} {l : List α} {a : α} (h : a ∈ l) : ∃ j : Nat, l[j]? = some a := by
  obtain ⟨j, hj, rfl⟩ := List.getElem_of_mem h
  exact ⟨j, List.getElem?_eq_getElem hj⟩
theorem get_of_size {vs : Array Value} {n j : Nat} (h : vs.size = n) (hj : j < n) : ∃ u, vs[j]? = some u := ⟨_, Array.getElem?_eq_getElem (by omega)⟩

theorem Rel.ids {c : Cx} {a : AV} {x : Value} (h : Rel c a x) : Below c.h.length a := by
  induction h with
  | v x => exact .v x
  | junk x => exact .junk
  | agg l cs hl _ ih =>
    refine .agg l fun a ha => ?_
    obtain ⟨j, hj⟩ := mem_get ha
    obtain ⟨u, hu⟩ := get_of_size hl (lt_of_get hj)
    exact ih j a u hj hu
  | tup l cs hl _ ih =>
    refine .tup l fun a ha => ?_
    obtain ⟨j, hj⟩ := mem_get ha
    obtain ⟨u, hu⟩ := get_of_size hl (lt_of_get hj)
    exact ih j a u hj hu
  | slnil s own ht => exact .sl s [] own (by simp [flat]) fun b hb => (ht b hb).1
  | slzero s own ba ht => exact .sl s [] own (by simp [flat]) fun b hb => (ht b hb).1
  | sl s xs own B o cap f hs hcap hmax hc _ ht ih =>
    refine .sl s xs own (fun a ha => ?_) fun b hb => (ht b hb).1.1
    obtain ⟨j, hj⟩ := mem_get ha
    exact ih j a hj
  | pin s xs k off B o f hs hc _ ih =>
    refine .pin s xs k off fun a ha => ?_
    obtain ⟨j, hj⟩ := mem_get ha
    exact ih j a hj
  | ptr id k off x hid ho h1 => exact .ptr id k off hid
  | arr id lo len x hid ho h1 => exact .arr id lo len hid
  | mp id x hid ho h1 => exact .mp id hid
  | fn f first cap vs ws e1 e2 _ _ ih1 ih2 =>
    refine .fn f first cap (fun a ha => ?_) fun a ha => ?_
    · obtain ⟨j, hj⟩ := mem_get ha
      obtain ⟨u, hu⟩ := get_of_size e1 (lt_of_get hj)
      exact ih1 j a u hj hu
    · obtain ⟨j, hj⟩ := mem_get ha
      obtain ⟨u, hu⟩ := get_of_size e2 (lt_of_get hj)
      exact ih2 j a u hj hu
  | ifc t a u _ ih => exact .ifc t a ih

/-- blocks from m on are let go -/
def Cx.cut (c : Cx) (m : Nat) : Cx := { c with h := c.h.take m }

theorem cut_get {c : Cx} {m id : Nat} {b : AB} (h : (c.cut m).h[id]? = some b) : id < m ∧ c.h[id]? = some b := by
  have hlt := lt_of_get h
  simp only [Cx.cut, List.length_take] at hlt h
  rw [List.getElem?_take_of_lt (by omega)] at h
  exact ⟨by omega, h⟩
theorem get_cut {c : Cx} {m id : Nat} {b : AB} (hm : id < m) (h : c.h[id]? = some b) : (c.cut m).h[id]? = some b := by
  simp only [Cx.cut]; rw [List.getElem?_take_of_lt hm]; exact h

theorem prot_cut {c : Cx} {m B o : Nat} (h : c.prot B o) : (c.cut m).prot B o :=
  ⟨h.1, fun id b hb hl hρ => h.2 id b (cut_get hb).2 hl hρ⟩

theorem Rel.cut {c : Cx} {m : Nat} (hm : m ≤ c.h.length) {a : AV} {x : Value} (h : Rel c a x) (hb : Below m a) : Rel (c.cut m) a x := by
  have hlen : (c.cut m).h.length = m := by simp [Cx.cut]; omega
  induction h with
  | v x => exact .v x
  | junk x => exact .junk x
  | agg l cs hl _ ih => cases hb with | agg _ h => exact .agg l cs hl fun j a u h1 h2 => ih j a u h1 h2 (h a (List.mem_of_getElem? h1))
  | tup l cs hl _ ih => cases hb with | tup _ h => exact .tup l cs hl fun j a u h1 h2 => ih j a u h1 h2 (h a (List.mem_of_getElem? h1))
  | slnil s own ht =>
    cases hb with
    | sl _ _ _ h hown =>
      refine .slnil s own fun b hb => ⟨by rw [hlen]; exact hown b hb, fun e s' n hg => (ht b hb).2 e s' n (cut_get hg).2⟩
  | slzero s own ba ht =>
    cases hb with
    | sl _ _ _ h hown =>
      refine .slzero s own ba fun b hb => ⟨by rw [hlen]; exact hown b hb, fun e s' n hg => (ht b hb).2 e s' n (cut_get hg).2⟩
  | sl s xs own B o cap f hs hcap hmax hc _ ht ih =>
    cases hb with
    | sl _ _ _ h hown =>
      exact .sl s xs own B o cap f hs hcap hmax (fun j a hj => ⟨⟨(hc j a hj).1.1, prot_cut (hc j a hj).1.2⟩, (hc j a hj).2⟩) (fun j a hj => ih j a hj (h a (List.mem_of_getElem? hj)))
        fun b hb => ⟨⟨by rw [hlen]; exact hown b hb, fun hd => (ht b hb).1.2 (cut_get hd).2⟩, fun e s' n hg => (ht b hb).2 e s' n (cut_get hg).2⟩
  | pin s xs k off B o f hs hc _ ih =>
    cases hb with
    | pin _ _ _ _ h =>
      exact .pin s xs k off B o f hs (fun j a hj => ⟨⟨(hc j a hj).1.1, prot_cut (hc j a hj).1.2⟩, (hc j a hj).2⟩) (fun j a hj => ih j a hj (h a (List.mem_of_getElem? hj)))
  | ptr id k off x hid ho h1 => cases hb with | ptr _ _ _ h => exact .ptr id k off x (by rw [hlen]; exact h) ho fun ty s xs hg => h1 ty s xs (cut_get hg).2
  | arr id lo len x hid ho h1 => cases hb with | arr _ _ _ h => exact .arr id lo len x (by rw [hlen]; exact h) ho fun ty s xs hg => h1 ty s xs (cut_get hg).2
  | mp id x hid ho h1 => cases hb with | mp _ h => exact .mp id x (by rw [hlen]; exact h) ho ⟨fun es hg => h1.1 es (cut_get hg).2, fun i hg => h1.2 i (cut_get hg).2⟩
  | fn f first cap vs ws e1 e2 _ _ ih1 ih2 =>
    cases hb with
    | fn _ _ _ h1 h2 => exact .fn f first cap vs ws e1 e2 (fun j a u h3 h4 => ih1 j a u h3 h4 (h1 a (List.mem_of_getElem? h3))) (fun j a u h3 h4 => ih2 j a u h3 h4 (h2 a (List.mem_of_getElem? h3)))
  | ifc t a u _ ih => cases hb with | ifc _ _ h => exact .ifc t a u (ih h)

def AB.Below (n : Nat) : AB → Prop
  | .cells _ _ xs => ∀ a ∈ flat xs, Ab.Below n a
  | .grow _ _ _ => True
  | .map es => ∀ kv ∈ es, Ab.Below n kv.2
  | .loop i => ∀ t, Ab.Below n (i.tm t)
  | .dead => True

theorem Below.mono {n m : Nat} (hnm : n ≤ m) {a : AV} (h : Ab.Below n a) : Ab.Below m a := by
  induction h with
  | v x => exact .v x
  | junk => exact .junk
  | agg l _ ih => exact .agg l ih
  | tup l _ ih => exact .tup l ih
  | sl s xs own _ ho ih => exact .sl s xs own ih fun b hb => Nat.lt_of_lt_of_le (ho b hb) hnm
  | pin s xs k off _ ih => exact .pin s xs k off ih
  | ptr id k off h => exact .ptr id k off (Nat.lt_of_lt_of_le h hnm)
  | arr id lo len h => exact .arr id lo len (Nat.lt_of_lt_of_le h hnm)
  | mp id h => exact .mp id (Nat.lt_of_lt_of_le h hnm)
  | fn f a b _ _ ih1 ih2 => exact .fn f a b ih1 ih2
  | ifc t a _ ih => exact .ifc t _ ih
theorem AB.Below.mono {n m : Nat} {b : AB} (h : b.Below n) (hnm : n ≤ m) : b.Below m := by
  cases b with
  | cells t s xs => exact fun a ha => Ab.Below.mono hnm (h a ha)
  | grow => trivial
  | map es => exact fun kv hkv => Ab.Below.mono hnm (h kv hkv)
  | loop i => exact fun t => Ab.Below.mono hnm (h t)
  | dead => trivial

theorem St.below {c : Cx} (hs : St c) {id : Nat} {b : AB} (hb : c.h[id]? = some b) : b.Below c.h.length := by
  have := hs.blocks id b hb
  cases b with
  | cells ty s xs =>
    obtain ⟨B, cur, h1, h2, h3, h4⟩ := this
    intro a ha
    obtain ⟨j, hj⟩ := mem_get ha
    obtain ⟨u, _, _, hr⟩ := h4 j a hj
    exact hr.ids
  | grow => trivial
  | map es =>
    obtain ⟨B, ents, clock, h1, h2, h3, h4⟩ := this
    intro kv hkv
    obtain ⟨j, hj⟩ := mem_get hkv
    have hlt : j < ents.size := by rw [h3]; exact lt_of_get hj
    exact (h4 j kv ents[j] hj (Array.getElem?_eq_getElem hlt)).2.ids
  | loop i =>
    obtain ⟨B, r, h1, h2, h3, h4⟩ := this
    exact fun t => (h4 t).ids
  | dead => trivial

theorem St.cut {c : Cx} (hs : St c) {m : Nat} (hm : m ≤ c.h.length) (hb : ∀ b ∈ c.h.take m, b.Below m) : St (c.cut m) := by
  refine ⟨fun id b hg => ?_, fun i j a b B hi hj hla hlb hρi hρj => hs.inj i j a b B (cut_get hi).2 (cut_get hj).2 hla hlb hρi hρj⟩
  have hbl : b.Below m := hb b (List.mem_of_getElem? hg)
  have h0 := hs.blocks id b (cut_get hg).2
  cases b with
  | cells ty s xs =>
    obtain ⟨B, cur, h1, h2, h3, h4⟩ := h0
    exact ⟨B, cur, h1, h2, h3, fun j a hj => let ⟨u, h5, h6, h7⟩ := h4 j a hj; ⟨u, h5, h6, h7.cut hm (hbl a (List.mem_of_getElem? hj))⟩⟩
  | grow e s n => exact h0
  | map es =>
    obtain ⟨B, ents, clock, h1, h2, h3, h4⟩ := h0
    exact ⟨B, ents, clock, h1, h2, h3, fun j kv e hj he => ⟨(h4 j kv e hj he).1, (h4 j kv e hj he).2.cut hm (hbl kv (List.mem_of_getElem? hj))⟩⟩
  | loop i =>
    obtain ⟨B, r, h1, h2, h3, h4⟩ := h0
    exact ⟨B, r, h1, h2, h3, fun t => (h4 t).cut hm (hbl t)⟩
  | dead => trivial

theorem Ev.cut {c c' : Cx} (h : Ev c c') {m : Nat} (h1 : c.h.length ≤ m) (h2 : m ≤ c'.h.length) : Ev c (c'.cut m) := by
  refine ⟨h.os, h.tape, h.output, h.size, by simp [Cx.cut]; omega, h.frame, fun id b hb => ?_, fun id B b h3 h4 hl hρ => h.fresh id B b h3 (cut_get h4).2 hl hρ⟩
  obtain ⟨b', hb', hk⟩ := h.kin id b hb
  have hlt := lt_of_get hb
  exact ⟨b', get_cut (by omega) hb', hk⟩

/-- what a value becomes when the blocks from m on are let go: what they hold stays as it is -/
inductive Frz (h : AH) (m : Nat) : AV → AV → Prop
  | nil (s : Nat) : Frz h m (.v (.slice none 0 0)) (.sl s [] none)
  | keep {a : AV} (hb : Below m a) : Frz h m a a
  | tok {s : Nat} {xs : List AV} {own : Option Nat} (hb : ∀ a ∈ flat xs, Below m a) : Frz h m (.sl s xs own) (.sl s xs none)
  | arr {id lo len s : Nat} {ty : TypeId} {xs : List AV} (hi : m ≤ id) (hg : h[id]? = some (.cells ty s xs)) (hl : lo + len ≤ xs.length) (hb : ∀ a ∈ flat xs, Below m a) :
      Frz h m (.arr id lo len) (.sl s ((xs.drop lo).take len) none)
  | ptr {id k off s : Nat} {ty : TypeId} {xs : List AV} (hi : m ≤ id) (hg : h[id]? = some (.cells ty s xs)) (hb : ∀ a ∈ flat xs, Below m a) : Frz h m (.ptr id k off) (.pin s xs k off)
  | agg {l l' : List AV} (hl : l'.length = l.length) (hp : ∀ (j : Nat) a a', l[j]? = some a → l'[j]? = some a' → Frz h m a a') : Frz h m (.agg l) (.agg l')
  | tup {l l' : List AV} (hl : l'.length = l.length) (hp : ∀ (j : Nat) a a', l[j]? = some a → l'[j]? = some a' → Frz h m a a') : Frz h m (.tup l) (.tup l')
  | fn {f : Fn} {a a' b b' : List AV} (hl : a'.length = a.length) (hl' : b'.length = b.length) (hp : ∀ (j : Nat) x x', a[j]? = some x → a'[j]? = some x' → Frz h m x x')
      (hq : ∀ (j : Nat) x x', b[j]? = some x → b'[j]? = some x' → Frz h m x x') : Frz h m (.fn f a b) (.fn f a' b')

theorem rel_row_cut {c : Cx} (hs : St c) {m : Nat} (hm : m ≤ c.h.length) {id B ty s : Nat} {xs : List AV} (hi : m ≤ id) (hg : c.h[id]? = some (.cells ty s xs)) (hρ : c.ρ id = some B) (hb : ∀ a ∈ flat xs, Below m a) :
    (∀ x ∈ xs, x.cells.length = s) ∧ ∃ f : Nat → Value, ∀ (j : Nat) a, (flat xs)[j]? = some a → ((c.cut m).cellP B (0 + j) (f j) ∧ (f j).oneCell' = true) ∧ Rel (c.cut m) a (f j) := by
  obtain ⟨B', cur, h1, h2, h3, h4⟩ := hs.blocks id _ hg
  rw [hρ] at h1; cases h1
  refine ⟨h3, fun j => cur.getD j undef, fun j a hj => ?_⟩
  obtain ⟨u, h5, h6, h7⟩ := h4 j a hj
  have e : cur.getD j undef = u := by rw [Array.getD_eq_getD_getElem?, h5]; rfl
  show ((c.cut m).cellP B (0 + j) (cur.getD j undef) ∧ (cur.getD j undef).oneCell' = true) ∧ Rel (c.cut m) a (cur.getD j undef)
  rw [e]
  refine ⟨⟨⟨by show c.w.cell? _ = _; rw [Nat.zero_add, cell_cells h2]; exact h5, ?_⟩, h6⟩, h7.cut hm (hb a (List.mem_of_getElem? hj))⟩
  refine ⟨hs.lt hg rfl hρ, fun id' b' hb' hl' hρ' => ?_⟩
  obtain ⟨hlt, hb''⟩ := cut_get hb'
  have := hs.inj id' id b' _ B hb'' hg hl' rfl hρ' hρ
  omega

theorem Frz.rel {c : Cx} (hs : St c) {m : Nat} (hm : m ≤ c.h.length) {a a' : AV} (h : Frz c.h m a a') : ∀ {x : Value}, Rel c a x → Rel (c.cut m) a' x := by
  induction h with
  | nil s => intro x hr; cases hr; exact .slnil s none fun b hb => by cases hb
  | keep hb => exact fun hr => hr.cut hm hb
  | @tok s xs own hb =>
    intro x hr
    cases hr with
    | slnil _ _ ht => exact .slnil s none fun b hb => by cases hb
    | slzero _ _ ba ht => exact .slzero s none ba fun b hb => by cases hb
    | sl _ _ _ B o cap f hs' hcap hmax hc hr ht =>
      exact .sl s xs none B o cap f hs' hcap hmax (fun j a hj => ⟨⟨(hc j a hj).1.1, prot_cut (hc j a hj).1.2⟩, (hc j a hj).2⟩) (fun j a hj => (hr j a hj).cut hm (hb a (List.mem_of_getElem? hj))) fun b hb => by cases hb
  | @arr id lo len s ty xs hi hg hl hb =>
    intro x hr
    cases hr with
    | arr _ _ _ x hid ho h1 =>
      obtain ⟨B, cap, hρ, rfl, h2, h3⟩ := h1 _ _ _ hg
      obtain ⟨h4, f, h5⟩ := rel_row_cut hs hm hi hg hρ hb
      have hlen : ((xs.drop lo).take len).length = len := by simp; omega
      have hdrop : ∀ y ∈ xs.drop lo, y.cells.length = s := fun y hy => h4 y (List.mem_of_mem_drop hy)
      have hget : ∀ (j : Nat) a, (flat ((xs.drop lo).take len))[j]? = some a → (flat xs)[lo * s + j]? = some a := by
        intro j a hj
        rw [flat_take hdrop (by simp; omega)] at hj
        have hlt := lt_of_get hj
        rw [List.length_take] at hlt
        rw [List.getElem?_take_of_lt (by omega), flat_drop h4 (by omega), List.getElem?_drop] at hj
        exact hj
      have := Rel.sl (c := c.cut m) s ((xs.drop lo).take len) none B (lo * s) cap (fun j => f (lo * s + j)) (fun y hy => hdrop y (List.mem_of_mem_take hy)) (by omega) h3
        (fun j a hj => by have := (h5 _ a (hget j a hj)).1; rwa [Nat.zero_add] at this) (fun j a hj => (h5 _ a (hget j a hj)).2) (fun b hb => by cases hb)
      rwa [hlen] at this
  | @ptr id k off s ty xs hi hg hb =>
    intro x hr
    cases hr with
    | ptr _ _ _ x hid ho h1 =>
      obtain ⟨B, hρ, rfl⟩ := h1 _ _ _ hg
      obtain ⟨h4, f, h5⟩ := rel_row_cut hs hm hi hg hρ hb
      have := Rel.pin (c := c.cut m) s xs k off B 0 f h4 (fun j a hj => (h5 j a hj).1) (fun j a hj => (h5 j a hj).2)
      rwa [Nat.zero_add] at this
  | @agg l l' hl _ ih =>
    intro x hr
    cases hr with
    | agg _ cs hl' hr =>
      refine .agg _ cs (by omega) fun j a' u ha' hu => ?_
      obtain ⟨a, ha⟩ : ∃ a, l[j]? = some a := ⟨_, List.getElem?_eq_getElem (by rw [← hl]; exact lt_of_get ha')⟩
      exact ih j a a' ha ha' (hr j a u ha hu)
  | @tup l l' hl _ ih =>
    intro x hr
    cases hr with
    | tup _ cs hl' hr =>
      refine .tup _ cs (by omega) fun j a' u ha' hu => ?_
      obtain ⟨a, ha⟩ : ∃ a, l[j]? = some a := ⟨_, List.getElem?_eq_getElem (by rw [← hl]; exact lt_of_get ha')⟩
      exact ih j a a' ha ha' (hr j a u ha hu)
  | @fn f p p' q q' hl hl' _ _ ih1 ih2 =>
    intro x hr
    cases hr with
    | fn _ _ _ vs ws e1 e2 h1 h2 =>
      refine .fn _ _ _ vs ws (by omega) (by omega) (fun j a' u ha' hu => ?_) (fun j a' u ha' hu => ?_)
      · obtain ⟨a, ha⟩ : ∃ a, p[j]? = some a := ⟨_, List.getElem?_eq_getElem (by rw [← hl]; exact lt_of_get ha')⟩
        exact ih1 j a a' ha ha' (h1 j a u ha hu)
      · obtain ⟨a, ha⟩ : ∃ a, q[j]? = some a := ⟨_, List.getElem?_eq_getElem (by rw [← hl']; exact lt_of_get ha')⟩
        exact ih2 j a a' ha ha' (h2 j a u ha hu)

/-! ### results -/

def aResult (P : Program) (s : AS) : ResultVar → Option AV
  | .tmp t => some (s.tm t)
  | .cell a t => aLoad P t (s.tm a) s.h

def aResults (P : Program) (s : AS) (rs : List ResultVar) : Option AV :=
  match rs with
  | [r] => aResult P s r
  | rs => (rs.mapM (aResult P s)).map .tup

/-- a result, as the model takes it -/
def resF (tmps : Array Value) : ResultVar → Sem Value
  | .tmp t => pure (tmps.getD t undef)
  | .cell p t => do loadVar t (← asAddr (tmps.getD p undef))

theorem results_eq (fn : Func) (tmps : Array Value) : results fn tmps = (do let vs ← fn.results.mapM (resF tmps); pure (if h : vs.size = 1 then vs[0] else .tuple vs)) := by
  unfold results
  congr 1

theorem result_sound {P : Program} {N : Nat} {base : Nat × Fence} {c : Cx} (hst : St c) {s : AS} {a : Act} (hr : SR N base c s a) {rv : ResultVar} {r : AV} (h : aResult P s rv = some r) :
    ∃ x, (resF a.tmps rv).run P c.w = .ok x c.w ∧ Rel c r x := by
  cases rv with
  | tmp t => simp only [aResult] at h; cases h; exact ⟨_, rfl, hr.tm t⟩
  | cell p t =>
    simp only [aResult] at h
    rw [← hr.h] at h
    obtain ⟨x, hrun, hx⟩ := aLoad_sound hst h (hr.tm p)
    refine ⟨x, ?_, hx⟩
    rw [← hrun]
    simp only [Instr.loadAt, resF]
    generalize a.tmps.getD p undef = u at hrun
    cases u with
    | pointer o =>
      cases o with
      | some ad => rfl
      | none => simp [Instr.loadAt, Instr.sureAddr] at hrun
    | _ => simp [Instr.loadAt, Instr.sureAddr] at hrun

theorem mapM_results {P : Program} {N : Nat} {base : Nat × Fence} {c : Cx} (hst : St c) {s : AS} {a : Act} (hr : SR N base c s a) : ∀ {rs : List ResultVar} {l : List AV}, rs.mapM (aResult P s) = some l →
    ∃ xs : List Value, (rs.mapM (resF a.tmps)).run P c.w = .ok xs c.w ∧ RelL c l xs.toArray
  | [], l, h => by simp at h; subst h; exact ⟨[], rfl, rfl, fun j a u h => by simp at h⟩
  | rv :: rs, l, h => by
    simp only [List.mapM_cons] at h
    cases h1 : aResult P s rv with
    | none => simp [h1] at h
    | some r =>
      cases h2 : rs.mapM (aResult P s) with
      | none => simp [h1, h2] at h
      | some l' =>
        simp [h1, h2] at h
        subst h
        obtain ⟨x, h3, h4⟩ := result_sound hst hr h1
        obtain ⟨xs, h5, h6⟩ := mapM_results hst hr h2
        refine ⟨x :: xs, by simp only [List.mapM_cons, Sem.run_bind, h3, Result.andThen_ok, h5, Sem.run_pure], by have := h6.1; simpa using this, fun j a u ha hu => ?_⟩
        cases j with
        | zero => simp at ha hu; subst ha; subst hu; exact h4
        | succ j => exact h6.2 j a u (by simpa using ha) (by simpa using hu)

theorem results_sound {P : Program} {N : Nat} {base : Nat × Fence} {c : Cx} (hst : St c) {s : AS} {a : Act} (hr : SR N base c s a) {fn : Func} {r : AV} (h : aResults P s fn.results.toList = some r) : ∃ x, (results fn a.tmps).run P c.w = .ok x c.w ∧ Rel c r x := by
  have hrun : ∀ xs : List Value, (fn.results.toList.mapM (resF a.tmps)).run P c.w = .ok xs c.w →
      (results fn a.tmps).run P c.w = .ok (if h : xs.toArray.size = 1 then xs.toArray[0] else .tuple xs.toArray) c.w := by
    intro xs hx
    rw [results_eq, Array.mapM_eq_mapM_toList]
    simp only [Sem.run_bind, Sem.run_map]
    rw [hx]
    rfl
  unfold aResults at h
  split at h
  · rename_i rv hrs
    obtain ⟨x, h1, h2⟩ := result_sound hst hr h
    refine ⟨x, ?_, h2⟩
    rw [hrun [x] (by rw [hrs]; simp only [List.mapM_cons, List.mapM_nil, Sem.run_bind, h1, Result.andThen_ok, Sem.run_pure])]
    rfl
  · rename_i rs hne
    simp only [Option.map_eq_some_iff] at h
    obtain ⟨l, hl, rfl⟩ := h
    obtain ⟨xs, h1, h2⟩ := mapM_results hst hr hl
    refine ⟨.tuple xs.toArray, ?_, .tup l _ h2.1 h2.2⟩
    rw [hrun xs h1]
    have hne1 : ¬ xs.toArray.size = 1 := by
      intro he
      have h3 : l.length = 1 := by have := h2.1; omega
      have h4 : fn.results.toList.length = l.length := by
        clear h1 h2 hrun hne
        generalize fn.results.toList = rs at hl
        induction rs generalizing l with
        | nil => simp at hl; subst hl; rfl
        | cons rv rs ih =>
          simp only [List.mapM_cons] at hl
          cases h5 : aResult P s rv with
          | none => simp [h5] at hl
          | some r =>
            cases h6 : rs.mapM (aResult P s) with
            | none => simp [h5, h6] at hl
            | some l' =>
              simp [h5, h6] at hl
              subst hl
              simp only [List.length_cons]
              cases l' with
              | nil => cases rs with
                | nil => rfl
                | cons z zs =>
                  simp only [List.mapM_cons] at h6
                  cases h7 : aResult P s z with
                  | none => simp [h7] at h6
                  | some q => cases h8 : zs.mapM (aResult P s) with
                    | none => simp [h7, h8] at h6
                    | some q' => simp [h7, h8] at h6
              | cons z zs => simp at h3
      rw [h3] at h4
      match hq : fn.results.toList with
      | [rv] => exact hne rv hq
      | [] => rw [hq] at h4; simp at h4
      | _ :: _ :: _ => rw [hq] at h4; simp at h4
    rw [dif_neg hne1]

end Go.Proofs.Ytplnbmldkgcedaa.Ab
