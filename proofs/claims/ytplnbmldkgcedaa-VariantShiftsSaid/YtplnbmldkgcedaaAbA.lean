/-
  An abstract program logic over the model: abstract values, abstract heaps, the relation to the model's world, and how it abides the world's growth.
-/
import Derived.Laws.AppendOwn
import Derived.OrdersIn
import Derived.LoopNIn
namespace Go.Proofs.Ytplnbmldkgcedaa.Ab

/-- abstract values -/
inductive AV where
  | v (x : Value)
  | agg (l : List AV)
  | tup (l : List AV)
  | sl (s : Nat) (xs : List AV) (own : Option Nat)
  | pin (s : Nat) (xs : List AV) (k off : Nat)
  | ptr (id k off : Nat)
  | arr (id lo len : Nat)
  | mp (id : Nat)
  | fn (f : Fn) (first cap : List AV)
  | ifc (t : TypeId) (x : AV)
  | junk
  deriving Inhabited

def AV.cells : AV → List AV
  | .agg l => l
  | x => [x]
def AV.isAgg : AV → Bool
  | .agg _ => true
  | _ => false
def AV.cell1 : AV → Bool
  | .v x => x.oneCell'
  | .agg _ | .tup _ | .junk => false
  | _ => true
def AV.cells1 (x : AV) : Bool := x.cells.all AV.cell1

def flat (xs : List AV) : List AV := xs.flatMap AV.cells

/-- a loop over a function: what its rounds run on -/
structure LoopA where
  params : Array Tmp
  assign : Code
  body : Code
  N : Nat
  tm : Nat → AV
  st : LoopState
  pend : Option Code

/-- abstract blocks -/
inductive AB where
  | cells (ty : TypeId) (s : Nat) (xs : List AV)
  | grow (e : TypeId) (s n : Nat)
  | map (es : List (Value × AV))
  | loop (i : LoopA)
  | dead
  deriving Inhabited
def AB.live : AB → Bool
  | .dead => false
  | _ => true

abbrev AH := List AB

structure Cx where
  ρ : Nat → Option Nat
  h : AH
  w : World

def Cx.owns (c : Cx) (B : Nat) : Prop := ∃ id b, c.h[id]? = some b ∧ b.live = true ∧ c.ρ id = some B

/-- a cell that nothing will write any more -/
def Cx.prot (c : Cx) (B o : Nat) : Prop :=
  B < c.w.heap.size ∧ ∀ id b, c.h[id]? = some b → b.live = true → c.ρ id = some B → ∃ e s n, b = .grow e s n ∧ o < n * s

def Cx.cellP (c : Cx) (B o : Nat) (u : Value) : Prop := c.w.cell? ⟨B, o, none⟩ = some u ∧ c.prot B o

/-- what a token says of its slice -/
def Cx.tokAt (c : Cx) (b s len cap B o : Nat) : Prop :=
  (b < c.h.length ∧ c.h[b]? ≠ some .dead) ∧ ∀ e s' n, c.h[b]? = some (.grow e s' n) → s' = s ∧ len ≤ n ∧
    (n = len → o = 0 ∧ c.ρ b = some B ∧ len ≤ cap ∧ cap ≤ maxLen ∧ ∃ cur, c.w.heap[B]? = some (.cells cur e (0, 0)) ∧ cur.size = cap * s)
def Cx.tokNil (c : Cx) (b s : Nat) : Prop :=
  b < c.h.length ∧ ∀ e s' n, c.h[b]? = some (.grow e s' n) → s' = s ∧ (n = 0 → c.ρ b = none)

inductive Rel (c : Cx) : AV → Value → Prop
  | v (x : Value) : Rel c (.v x) x
  | junk (x : Value) : Rel c .junk x
  | agg (l : List AV) (cs : Array Value) (hl : cs.size = l.length) (h : ∀ (j : Nat) a u, l[j]? = some a → cs[j]? = some u → Rel c a u) : Rel c (.agg l) (.agg cs)
  | tup (l : List AV) (cs : Array Value) (hl : cs.size = l.length) (h : ∀ (j : Nat) a u, l[j]? = some a → cs[j]? = some u → Rel c a u) : Rel c (.tup l) (.tuple cs)
  | slnil (s : Nat) (own : Option Nat) (ht : ∀ b, own = some b → c.tokNil b s) : Rel c (.sl s [] own) (.slice none 0 0)
  | slzero (s : Nat) (own : Option Nat) (ba : Addr) (ht : ∀ b, own = some b → c.tokNil b s) : Rel c (.sl s [] own) (.slice (some ba) 0 0)
  | sl (s : Nat) (xs : List AV) (own : Option Nat) (B o cap : Nat) (f : Nat → Value) (hs : ∀ x ∈ xs, x.cells.length = s)
      (hcap : xs.length ≤ cap) (hmax : cap ≤ maxLen)
      (hc : ∀ (j : Nat) a, (flat xs)[j]? = some a → c.cellP B (o + j) (f j) ∧ (f j).oneCell' = true) (hr : ∀ (j : Nat) a, (flat xs)[j]? = some a → Rel c a (f j))
      (ht : ∀ b, own = some b → c.tokAt b s xs.length cap B o) : Rel c (.sl s xs own) (.slice (some ⟨B, o, none⟩) xs.length cap)
  | pin (s : Nat) (xs : List AV) (k off B o : Nat) (f : Nat → Value) (hs : ∀ x ∈ xs, x.cells.length = s)
      (hc : ∀ (j : Nat) a, (flat xs)[j]? = some a → c.cellP B (o + j) (f j) ∧ (f j).oneCell' = true) (hr : ∀ (j : Nat) a, (flat xs)[j]? = some a → Rel c a (f j)) :
      Rel c (.pin s xs k off) (.pointer (some ⟨B, o + (k * s + off), none⟩))
  | ptr (id k off : Nat) (x : Value) (hid : id < c.h.length) (ho : x.oneCell' = true)
      (h : ∀ ty s xs, c.h[id]? = some (.cells ty s xs) → ∃ B, c.ρ id = some B ∧ x = .pointer (some ⟨B, k * s + off, none⟩)) : Rel c (.ptr id k off) x
  | arr (id lo len : Nat) (x : Value) (hid : id < c.h.length) (ho : x.oneCell' = true)
      (h : ∀ ty s xs, c.h[id]? = some (.cells ty s xs) → ∃ B cap, c.ρ id = some B ∧ x = .slice (some ⟨B, lo * s, none⟩) len cap ∧ len ≤ cap ∧ cap ≤ maxLen) : Rel c (.arr id lo len) x
  | mp (id : Nat) (x : Value) (hid : id < c.h.length) (ho : x.oneCell' = true)
      (h : (∀ es, c.h[id]? = some (.map es) → ∃ B, c.ρ id = some B ∧ x = .map (some B)) ∧ ∀ i, c.h[id]? = some (.loop i) → ∃ B, c.ρ id = some B ∧ x = .func (.yield B) #[] #[]) : Rel c (.mp id) x
  | fn (f : Fn) (first cap : List AV) (vs ws : Array Value) (h1 : vs.size = first.length) (h2 : ws.size = cap.length)
      (hv : ∀ (j : Nat) a u, first[j]? = some a → vs[j]? = some u → Rel c a u) (hw : ∀ (j : Nat) a u, cap[j]? = some a → ws[j]? = some u → Rel c a u) : Rel c (.fn f first cap) (.func f vs ws)
  | ifc (t : TypeId) (a : AV) (u : Value) (h : Rel c a u) : Rel c (.ifc t a) (.iface t u)

/-- an abstract block and its block of the world -/
def BR (c : Cx) (id : Nat) : AB → Prop
  | .cells ty s xs => ∃ B cur, c.ρ id = some B ∧ c.w.heap[B]? = some (.cells cur ty (0, 0)) ∧ (∀ x ∈ xs, x.cells.length = s) ∧
      (∀ (j : Nat) a, (flat xs)[j]? = some a → ∃ u, cur[j]? = some u ∧ u.oneCell' = true ∧ Rel c a u)
  | .grow e s n => ∀ B, c.ρ id = some B → ∃ cur, c.w.heap[B]? = some (.cells cur e (0, 0)) ∧ n * s ≤ cur.size
  | .map es => ∃ B ents clock, c.ρ id = some B ∧ c.w.heap[B]? = some (.map ents clock) ∧ ents.size = es.length ∧
      ∀ (j : Nat) kv e, es[j]? = some kv → ents[j]? = some e → e.key = kv.1 ∧ Rel c kv.2 e.val
  | .loop i => ∃ B r, c.ρ id = some B ∧ c.w.heap[B]? = some (.loop r) ∧ (r.state = i.st ∧ r.pending = i.pend ∧ r.params = i.params ∧ r.assign = i.assign ∧ r.body = i.body ∧ r.tmps.size = i.N) ∧ ∀ t, Rel c (i.tm t) (r.tmps.getD t undef)
  | .dead => True

structure St (c : Cx) : Prop where
  blocks : ∀ (id : Nat) b, c.h[id]? = some b → BR c id b
  inj : ∀ (i j : Nat) a b B, c.h[i]? = some a → c.h[j]? = some b → a.live = true → b.live = true → c.ρ i = some B → c.ρ j = some B → i = j

/-- what may become of a block -/
def Kin (c c' : Cx) (id : Nat) : AB → AB → Prop
  | .cells ty s _, b' => ∃ xs', b' = .cells ty s xs' ∧ c'.ρ id = c.ρ id
  | .grow e s n, b' => ∃ n', b' = .grow e s n' ∧ n ≤ n' ∧ (n' = n → c'.ρ id = c.ρ id) ∧ (∀ B, c'.ρ id = some B → c.ρ id = some B ∨ c.w.heap.size ≤ B) ∧
      ∀ B cur, c.ρ id = some B → c.w.heap[B]? = some (.cells cur e (0, 0)) → ∃ cur', c'.w.heap[B]? = some (.cells cur' e (0, 0)) ∧ cur'.size = cur.size ∧ ∀ j, j < n * s → cur'[j]? = cur[j]?
  | .map _, b' => ∃ es', b' = .map es' ∧ c'.ρ id = c.ρ id
  | .loop _, b' => ∃ i', b' = .loop i' ∧ c'.ρ id = c.ρ id
  | .dead, b' => b' = .dead

structure Ev (c c' : Cx) : Prop where
  os : c'.w.os = c.w.os
  tape : c'.w.tape = c.w.tape
  output : c'.w.output = c.w.output
  size : c.w.heap.size ≤ c'.w.heap.size
  len : c.h.length ≤ c'.h.length
  frame : ∀ B, B < c.w.heap.size → ¬ c.owns B → c'.w.heap[B]? = c.w.heap[B]?
  kin : ∀ (id : Nat) b, c.h[id]? = some b → ∃ b', c'.h[id]? = some b' ∧ Kin c c' id b b'
  fresh : ∀ (id B : Nat) b, c.h.length ≤ id → c'.h[id]? = some b → b.live = true → c'.ρ id = some B → c.w.heap.size ≤ B

theorem lt_of_get {α : Type} {l : List α} {i : Nat} {a : α} (h : l[i]? = some a) : i < l.length := by
  rcases Nat.lt_or_ge i l.length with h' | h'
  · exact h'
  · rw [List.getElem?_eq_none h'] at h; cases h

theorem Kin.live {c c' : Cx} {id : Nat} {b b' : AB} (h : Kin c c' id b b') : b'.live = b.live := by
  cases b <;> simp only [Kin] at h
  · obtain ⟨_, rfl, _⟩ := h; rfl
  · obtain ⟨_, rfl, _⟩ := h; rfl
  · obtain ⟨_, rfl, _⟩ := h; rfl
  · obtain ⟨_, rfl, _⟩ := h; rfl
  · subst h; rfl

theorem Kin.owns {c c' : Cx} {id : Nat} {b b' : AB} (h : Kin c c' id b b') (hb : b.live = true) {B : Nat} (hB : c'.ρ id = some B) : c.ρ id = some B ∨ c.w.heap.size ≤ B := by
  cases b <;> simp only [Kin] at h
  · obtain ⟨_, rfl, h⟩ := h; rw [← h]; exact .inl hB
  · obtain ⟨_, rfl, _, _, h, _⟩ := h; exact h B hB
  · obtain ⟨_, rfl, h⟩ := h; rw [← h]; exact .inl hB
  · obtain ⟨_, rfl, h⟩ := h; rw [← h]; exact .inl hB
  · cases hb

theorem Ev.owns {c c' : Cx} (h : Ev c c') {B : Nat} (hB : B < c.w.heap.size) (ho : c'.owns B) : c.owns B := by
  obtain ⟨id, b', hb', hl, hρ⟩ := ho
  rcases Nat.lt_or_ge id c.h.length with hi | hi
  · obtain ⟨b, hb⟩ : ∃ b, c.h[id]? = some b := ⟨_, List.getElem?_eq_getElem hi⟩
    obtain ⟨b'', hb'', hk⟩ := h.kin id b hb
    rw [hb'] at hb''; cases hb''
    have hl' : b.live = true := by rw [← hk.live]; exact hl
    rcases hk.owns hl' hρ with h1 | h1
    · exact ⟨id, b, hb, hl', h1⟩
    · omega
  · have := h.fresh id B _ hi hb' hl hρ; omega

theorem Ev.prot {c c' : Cx} (h : Ev c c') {B o : Nat} (hp : c.prot B o) : c'.prot B o := by
  refine ⟨Nat.lt_of_lt_of_le hp.1 h.size, ?_⟩
  intro id b' hb' hl hρ
  have hB := hp.1
  rcases Nat.lt_or_ge id c.h.length with hi | hi
  · obtain ⟨b, hb⟩ : ∃ b, c.h[id]? = some b := ⟨_, List.getElem?_eq_getElem hi⟩
    obtain ⟨b'', hb'', hk⟩ := h.kin id b hb
    rw [hb'] at hb''; cases hb''
    have hl' : b.live = true := by rw [← hk.live]; exact hl
    have hρ' : c.ρ id = some B := by
      rcases hk.owns hl' hρ with h1 | h1
      · exact h1
      · omega
    obtain ⟨e, s, n, rfl, hlt⟩ := hp.2 id b hb hl' hρ'
    simp only [Kin] at hk
    obtain ⟨n', rfl, hn, _⟩ := hk
    exact ⟨e, s, n', rfl, Nat.lt_of_lt_of_le hlt (Nat.mul_le_mul_right _ hn)⟩
  · have := h.fresh id B _ hi hb' hl hρ; omega

theorem cell_cells {w : World} {B o : Nat} {cur : Array Value} {t : TypeId} {fr : Nat × Nat} (h : w.heap[B]? = some (.cells cur t fr)) : w.cell? ⟨B, o, none⟩ = cur[o]? := by
  simp [World.cell?, h]

theorem Ev.cell {c c' : Cx} (h : Ev c c') {B o : Nat} (hs : St c) (hp : c.prot B o) : c'.w.cell? ⟨B, o, none⟩ = c.w.cell? ⟨B, o, none⟩ := by
  by_cases ho : c.owns B
  · obtain ⟨id, b, hb, hl, hρ⟩ := ho
    obtain ⟨e, s, n, rfl, hlt⟩ := hp.2 id b hb hl hρ
    obtain ⟨b', hb', hk⟩ := h.kin id _ hb
    simp only [Kin] at hk
    obtain ⟨n', rfl, _, _, _, hk⟩ := hk
    obtain ⟨cur, hc, _⟩ := hs.blocks id _ hb B hρ
    obtain ⟨cur', hc', _, hj⟩ := hk B cur hρ hc
    rw [cell_cells hc, cell_cells hc', hj o hlt]
  · exact World.cell?_of_block (w := c.w) (h.frame B hp.1 ho)

theorem Ev.cellP {c c' : Cx} (h : Ev c c') (hs : St c) {B o : Nat} {u : Value} (hp : c.cellP B o u) : c'.cellP B o u :=
  ⟨(h.cell hs hp.2).trans hp.1, h.prot hp.2⟩

theorem Ev.get {c c' : Cx} (h : Ev c c') {id : Nat} (hi : id < c.h.length) {b' : AB} (hb' : c'.h[id]? = some b') : ∃ b, c.h[id]? = some b ∧ Kin c c' id b b' := by
  obtain ⟨b, hb⟩ : ∃ b, c.h[id]? = some b := ⟨_, List.getElem?_eq_getElem hi⟩
  obtain ⟨b'', hb'', hk⟩ := h.kin id b hb
  rw [hb'] at hb''; cases hb''
  exact ⟨b, hb, hk⟩

theorem Ev.tokAt {c c' : Cx} (h : Ev c c') {b s len cap B o : Nat} (ht : c.tokAt b s len cap B o) : c'.tokAt b s len cap B o := by
  refine ⟨⟨Nat.lt_of_lt_of_le ht.1.1 h.len, fun hd => ?_⟩, ?_⟩
  · obtain ⟨b0, hb, hk⟩ := h.get ht.1.1 hd
    have := hk.live
    cases b0 with
    | dead => exact ht.1.2 hb
    | _ => simp [AB.live] at this
  intro e s' n hb'
  obtain ⟨b0, hb, hk⟩ := h.get ht.1.1 hb'
  cases b0 with
  | grow e0 s0 n0 =>
    simp only [Kin] at hk
    obtain ⟨n', he, hn, h1, _, h3⟩ := hk
    cases he
    obtain ⟨h4, h5, h6⟩ := ht.2 _ _ _ hb
    refine ⟨h4, Nat.le_trans h5 hn, fun hnl => ?_⟩
    have e1 : n0 = len := by omega
    obtain ⟨h7, h8, h9, h10, cur, h11, h12⟩ := h6 e1
    obtain ⟨cur', h13, h14, _⟩ := h3 B cur h8 h11
    exact ⟨h7, (h1 (by omega)).trans h8, h9, h10, cur', h13, h14.trans h12⟩
  | cells => simp only [Kin] at hk; obtain ⟨_, he, _⟩ := hk; cases he
  | map => simp only [Kin] at hk; obtain ⟨_, he, _⟩ := hk; cases he
  | loop => simp only [Kin] at hk; obtain ⟨_, he, _⟩ := hk; cases he
  | dead => simp only [Kin] at hk; cases hk

theorem Ev.tokNil {c c' : Cx} (h : Ev c c') {b s : Nat} (ht : c.tokNil b s) : c'.tokNil b s := by
  refine ⟨Nat.lt_of_lt_of_le ht.1 h.len, ?_⟩
  intro e s' n hb'
  obtain ⟨b0, hb, hk⟩ := h.get ht.1 hb'
  cases b0 with
  | grow e0 s0 n0 =>
    simp only [Kin] at hk
    obtain ⟨n', he, hn, h1, _, h3⟩ := hk
    cases he
    obtain ⟨h4, h5⟩ := ht.2 _ _ _ hb
    exact ⟨h4, fun hn0 => (h1 (by omega)).trans (h5 (by omega))⟩
  | cells => simp only [Kin] at hk; obtain ⟨_, he, _⟩ := hk; cases he
  | map => simp only [Kin] at hk; obtain ⟨_, he, _⟩ := hk; cases he
  | loop => simp only [Kin] at hk; obtain ⟨_, he, _⟩ := hk; cases he
  | dead => simp only [Kin] at hk; cases hk

/-- WHAT IS RELATED STAYS RELATED -/
theorem Rel.ev {c c' : Cx} (hs : St c) (h : Ev c c') {a : AV} {x : Value} (hr : Rel c a x) : Rel c' a x := by
  induction hr with
  | v x => exact .v x
  | junk x => exact .junk x
  | agg l cs hl _ ih => exact .agg l cs hl ih
  | tup l cs hl _ ih => exact .tup l cs hl ih
  | slnil s own ht => exact .slnil s own fun b hb => h.tokNil (ht b hb)
  | slzero s own ba ht => exact .slzero s own ba fun b hb => h.tokNil (ht b hb)
  | sl s xs own B o cap f hs' hcap hmax hc _ ht ih =>
    exact .sl s xs own B o cap f hs' hcap hmax (fun j a hj => ⟨h.cellP hs (hc j a hj).1, (hc j a hj).2⟩) ih fun b hb => h.tokAt (ht b hb)
  | pin s xs k off B o f hs' hc _ ih => exact .pin s xs k off B o f hs' (fun j a hj => ⟨h.cellP hs (hc j a hj).1, (hc j a hj).2⟩) ih
  | ptr id k off x hid ho h1 =>
    refine .ptr id k off x (Nat.lt_of_lt_of_le hid h.len) ho fun ty s xs hb' => ?_
    obtain ⟨b, hb, hk⟩ := h.get hid hb'
    cases b with
    | cells ty0 s0 xs0 =>
      simp only [Kin] at hk
      obtain ⟨_, he, hρ⟩ := hk
      cases he
      rw [hρ]; exact h1 _ _ _ hb
    | grow => simp only [Kin] at hk; obtain ⟨_, he, _⟩ := hk; cases he
    | map => simp only [Kin] at hk; obtain ⟨_, he, _⟩ := hk; cases he
    | loop => simp only [Kin] at hk; obtain ⟨_, he, _⟩ := hk; cases he
    | dead => simp only [Kin] at hk; cases hk
  | arr id lo len x hid ho h1 =>
    refine .arr id lo len x (Nat.lt_of_lt_of_le hid h.len) ho fun ty s xs hb' => ?_
    obtain ⟨b, hb, hk⟩ := h.get hid hb'
    cases b with
    | cells ty0 s0 xs0 =>
      simp only [Kin] at hk
      obtain ⟨_, he, hρ⟩ := hk
      cases he
      rw [hρ]; exact h1 _ _ _ hb
    | grow => simp only [Kin] at hk; obtain ⟨_, he, _⟩ := hk; cases he
    | map => simp only [Kin] at hk; obtain ⟨_, he, _⟩ := hk; cases he
    | loop => simp only [Kin] at hk; obtain ⟨_, he, _⟩ := hk; cases he
    | dead => simp only [Kin] at hk; cases hk
  | mp id x hid ho h1 =>
    refine .mp id x (Nat.lt_of_lt_of_le hid h.len) ho ⟨fun es hb' => ?_, fun i hb' => ?_⟩
    · obtain ⟨b, hb, hk⟩ := h.get hid hb'
      cases b with
      | map es0 =>
        simp only [Kin] at hk
        obtain ⟨_, he, hρ⟩ := hk
        cases he
        rw [hρ]; exact h1.1 _ hb
      | grow => simp only [Kin] at hk; obtain ⟨_, he, _⟩ := hk; cases he
      | cells => simp only [Kin] at hk; obtain ⟨_, he, _⟩ := hk; cases he
      | loop => simp only [Kin] at hk; obtain ⟨_, he, _⟩ := hk; cases he
      | dead => simp only [Kin] at hk; cases hk
    · obtain ⟨b, hb, hk⟩ := h.get hid hb'
      cases b with
      | loop i0 =>
        simp only [Kin] at hk
        obtain ⟨_, he, hρ⟩ := hk
        cases he
        rw [hρ]; exact h1.2 _ hb
      | grow => simp only [Kin] at hk; obtain ⟨_, he, _⟩ := hk; cases he
      | cells => simp only [Kin] at hk; obtain ⟨_, he, _⟩ := hk; cases he
      | map => simp only [Kin] at hk; obtain ⟨_, he, _⟩ := hk; cases he
      | dead => simp only [Kin] at hk; cases hk
  | fn f first cap vs ws h1 h2 _ _ ihv ihw => exact .fn f first cap vs ws h1 h2 ihv ihw
  | ifc t a u _ ih => exact .ifc t a u ih

theorem Kin.refl (c : Cx) (id : Nat) (b : AB) : Kin c c id b b := by
  cases b with
  | cells ty s xs => exact ⟨xs, rfl, rfl⟩
  | grow e s n => exact ⟨n, rfl, Nat.le_refl _, fun _ => rfl, fun B hB => .inl hB, fun B cur _ h => ⟨cur, h, rfl, fun _ _ => rfl⟩⟩
  | map es => exact ⟨es, rfl, rfl⟩
  | loop i => exact ⟨i, rfl, rfl⟩
  | dead => rfl

theorem Ev.refl (c : Cx) : Ev c c :=
  ⟨rfl, rfl, rfl, Nat.le_refl _, Nat.le_refl _, fun _ _ _ => rfl, fun id b hb => ⟨b, hb, Kin.refl c id b⟩, fun id B b h1 h2 => by have := lt_of_get h2; omega⟩

theorem Kin.trans {c c1 c2 : Cx} {id : Nat} {b b1 b2 : AB} (h01 : c.w.heap.size ≤ c1.w.heap.size) (h : Kin c c1 id b b1) (k : Kin c1 c2 id b1 b2)
    (hfr : ∀ B e s n n1 cur, b = .grow e s n → b1 = .grow e s n1 → c.ρ id = some B → c.w.heap[B]? = some (.cells cur e (0, 0)) → c1.ρ id ≠ some B → c2.w.heap[B]? = c1.w.heap[B]?) : Kin c c2 id b b2 := by
  cases b with
  | cells ty s xs =>
    simp only [Kin] at h
    obtain ⟨xs1, rfl, h⟩ := h
    simp only [Kin] at k
    obtain ⟨xs2, rfl, k⟩ := k
    exact ⟨xs2, rfl, k.trans h⟩
  | map es =>
    simp only [Kin] at h
    obtain ⟨xs1, rfl, h⟩ := h
    simp only [Kin] at k
    obtain ⟨xs2, rfl, k⟩ := k
    exact ⟨xs2, rfl, k.trans h⟩
  | loop i =>
    simp only [Kin] at h
    obtain ⟨xs1, rfl, h⟩ := h
    simp only [Kin] at k
    obtain ⟨xs2, rfl, k⟩ := k
    exact ⟨xs2, rfl, k.trans h⟩
  | dead => simp only [Kin] at h; subst h; exact k
  | grow e s n =>
    simp only [Kin] at h
    obtain ⟨n1, rfl, h1, h2, h3, h4⟩ := h
    simp only [Kin] at k
    obtain ⟨n2, rfl, k1, k2, k3, k4⟩ := k
    refine ⟨n2, rfl, Nat.le_trans h1 k1, fun e => (k2 (by omega)).trans (h2 (by omega)), fun B hB => ?_, fun B cur hρ hc => ?_⟩
    · rcases k3 B hB with h5 | h5
      · exact h3 B h5
      · exact .inr (Nat.le_trans h01 h5)
    · obtain ⟨cur1, hc1, hz1, hj1⟩ := h4 B cur hρ hc
      by_cases hρ1 : c1.ρ id = some B
      · obtain ⟨cur2, hc2, hz2, hj2⟩ := k4 B cur1 hρ1 hc1
        exact ⟨cur2, hc2, hz2.trans hz1, fun j hj => (hj2 j (Nat.lt_of_lt_of_le hj (Nat.mul_le_mul_right _ h1))).trans (hj1 j hj)⟩
      · exact ⟨cur1, (hfr B e s n n1 cur rfl rfl hρ hc hρ1).trans hc1, hz1, hj1⟩

theorem Ev.trans {c c1 c2 : Cx} (hs1 : St c) (h : Ev c c1) (k : Ev c1 c2) : Ev c c2 := by
  refine ⟨k.os.trans h.os, k.tape.trans h.tape, k.output.trans h.output, Nat.le_trans h.size k.size, Nat.le_trans h.len k.len, ?_, ?_, ?_⟩
  · intro B hB ho
    have ho1 : ¬ c1.owns B := fun e => ho (h.owns hB e)
    exact (k.frame B (Nat.lt_of_lt_of_le hB h.size) ho1).trans (h.frame B hB ho)
  · intro id b hb
    obtain ⟨b1, hb1, hk⟩ := h.kin id b hb
    obtain ⟨b2, hb2, kk⟩ := k.kin id b1 hb1
    refine ⟨b2, hb2, hk.trans h.size kk ?_⟩
    intro B e s n n1 cur e1 e2 hρ hc hne
    subst e1; subst e2
    have hB : B < c.w.heap.size := (Array.getElem?_eq_some_iff.1 hc).1
    refine k.frame B (Nat.lt_of_lt_of_le hB h.size) ?_
    rintro ⟨id', b', hb', hl', hρ'⟩
    -- the block B is owned by id in c; by id' in c1
    rcases Nat.lt_or_ge id' c.h.length with hi | hi
    · obtain ⟨b0, hb0, hk0⟩ := h.get hi hb'
      have hl0 : b0.live = true := by rw [← hk0.live]; exact hl'
      rcases hk0.owns hl0 hρ' with h5 | h5
      · have := hs1.inj id' id b0 _ B hb0 hb hl0 rfl h5 hρ
        subst this
        exact hne hρ'
      · omega
    · have := h.fresh id' B _ hi hb' hl' hρ'; omega
  · intro id B b2 h1 h2 hl2 hρ
    rcases Nat.lt_or_ge id c1.h.length with hi | hi
    · obtain ⟨b1, hb1⟩ : ∃ b, c1.h[id]? = some b := ⟨_, List.getElem?_eq_getElem hi⟩
      obtain ⟨b2', hb2, kk⟩ := k.kin id b1 hb1
      rw [h2] at hb2; cases hb2
      have hl : b1.live = true := by rw [← kk.live]; exact hl2
      rcases kk.owns hl hρ with h5 | h5
      · exact h.fresh id B _ h1 hb1 hl h5
      · exact Nat.le_trans h.size h5
    · exact Nat.le_trans h.size (k.fresh id B _ hi h2 hl2 hρ)

end Go.Proofs.Ytplnbmldkgcedaa.Ab
