/-
  The abstract program logic: how blocks are made and turned; reading and writing memory.
-/
import Derived.Test.YtplnbmldkgcedaaAbB
set_option linter.unusedVariables false
set_option maxHeartbeats 4000000
namespace Go.Proofs.Ytplnbmldkgcedaa.Ab

theorem addr_add (B o j : Nat) : (⟨B, o, none⟩ : Addr).add j = ⟨B, o + j, none⟩ := by
  unfold Addr.add; split <;> simp_all

theorem BR.ev {c c' : Cx} (hs : St c) (h : Ev c c') {id : Nat} {b : AB} (hb : BR c id b) (hρ : c'.ρ id = c.ρ id) (hw : ∀ B, b.live = true → c.ρ id = some B → c'.w.heap[B]? = c.w.heap[B]?) : BR c' id b := by
  cases b with
  | cells ty s xs =>
    obtain ⟨B, cur, h1, h2, h3, h4⟩ := hb
    exact ⟨B, cur, hρ.trans h1, (hw B rfl h1).trans h2, h3, fun j a ha => let ⟨u, h5, h6, h7⟩ := h4 j a ha; ⟨u, h5, h6, h7.ev hs h⟩⟩
  | grow e s n =>
    intro B hB
    rw [hρ] at hB
    obtain ⟨cur, h1, h2⟩ := hb B hB
    exact ⟨cur, (hw B rfl hB).trans h1, h2⟩
  | map es =>
    obtain ⟨B, ents, clock, h1, h2, h3, h4⟩ := hb
    exact ⟨B, ents, clock, hρ.trans h1, (hw B rfl h1).trans h2, h3, fun j kv e hj he => let ⟨h5, h6⟩ := h4 j kv e hj he; ⟨h5, h6.ev hs h⟩⟩
  | loop i =>
    obtain ⟨B, r, h1, h2, h3, h4⟩ := hb
    exact ⟨B, r, hρ.trans h1, (hw B rfl h1).trans h2, h3, fun t => (h4 t).ev hs h⟩
  | dead => trivial

/-- a block that an id owns exists -/
theorem St.lt {c : Cx} (hs : St c) {id B : Nat} {b : AB} (hb : c.h[id]? = some b) (hl : b.live = true) (hρ : c.ρ id = some B) : B < c.w.heap.size := by
  have := hs.blocks id b hb
  cases b with
  | cells ty s xs => obtain ⟨B', cur, h1, h2, _⟩ := this; rw [hρ] at h1; cases h1; exact (Array.getElem?_eq_some_iff.1 h2).1
  | grow e s n => obtain ⟨cur, h2, _⟩ := this B hρ; exact (Array.getElem?_eq_some_iff.1 h2).1
  | map es => obtain ⟨B', ents, clock, h1, h2, _⟩ := this; rw [hρ] at h1; cases h1; exact (Array.getElem?_eq_some_iff.1 h2).1
  | loop i => obtain ⟨B', r, h1, h2, _⟩ := this; rw [hρ] at h1; cases h1; exact (Array.getElem?_eq_some_iff.1 h2).1
  | dead => cases hl

theorem heap_alloc_at (w : World) (o : Obj) (k : Nat) (h : k < w.heap.size) : (w.alloc o).heap[k]? = w.heap[k]? := by
  show (w.heap.push o)[k]? = _
  rw [Array.getElem?_push, if_neg (by omega)]
theorem heap_alloc_top (w : World) (o : Obj) : (w.alloc o).heap[w.heap.size]? = some o := by
  show (w.heap.push o)[w.heap.size]? = _
  simp

/-- the world has grown, nothing old has turned -/
structure Grows (w w' : World) : Prop where
  os : w'.os = w.os
  tape : w'.tape = w.tape
  output : w'.output = w.output
  size : w.heap.size ≤ w'.heap.size
  old : ∀ B, B < w.heap.size → w'.heap[B]? = w.heap[B]?

theorem Grows.refl (w : World) : Grows w w := ⟨rfl, rfl, rfl, Nat.le_refl _, fun _ _ => rfl⟩
theorem Grows.drew (w : World) : Grows w w.drew := ⟨rfl, rfl, rfl, Nat.le_refl _, fun _ _ => rfl⟩
theorem Grows.alloc (w : World) (o : Obj) : Grows w (w.alloc o) := ⟨rfl, rfl, rfl, by simp, fun B h => heap_alloc_at w o B h⟩
theorem Grows.trans {a b c : World} (h : Grows a b) (k : Grows b c) : Grows a c :=
  ⟨k.os.trans h.os, k.tape.trans h.tape, k.output.trans h.output, Nat.le_trans h.size k.size, fun B hB => (k.old B (Nat.lt_of_lt_of_le hB h.size)).trans (h.old B hB)⟩

def Cx.to (c : Cx) (w : World) : Cx := { c with w := w }

theorem Ev.grows {c : Cx} (hs : St c) {w : World} (h : Grows c.w w) : Ev c (c.to w) := by
  refine ⟨h.os, h.tape, h.output, h.size, Nat.le_refl _, fun B hB _ => h.old B hB, fun id b hb => ⟨b, hb, ?_⟩, fun id B b h1 h2 => by have := lt_of_get h2; simp only [Cx.to] at this; omega⟩
  cases b with
  | cells ty s xs => exact ⟨xs, rfl, rfl⟩
  | grow e s n => exact ⟨n, rfl, Nat.le_refl _, fun _ => rfl, fun B hB => .inl hB, fun B cur hρ hc => ⟨cur, (h.old B (hs.lt hb rfl hρ)).trans hc, rfl, fun _ _ => rfl⟩⟩
  | map es => exact ⟨es, rfl, rfl⟩
  | loop i => exact ⟨i, rfl, rfl⟩
  | dead => rfl

theorem St.grows {c : Cx} (hs : St c) {w : World} (h : Grows c.w w) : St (c.to w) :=
  ⟨fun id b hb => (hs.blocks id b hb).ev hs (Ev.grows hs h) rfl (fun B hl hρ => h.old B (hs.lt hb hl hρ)), hs.inj⟩

/-- a new abstract block for a new block of the world, or none -/
def Cx.add (c : Cx) (w : World) (b : AB) (o : Option Nat) : Cx :=
  { ρ := fun id => if id = c.h.length then o else c.ρ id, h := c.h ++ [b], w := w }

theorem Ev.add {c : Cx} (hs : St c) {w : World} (h : Grows c.w w) (b : AB) (o : Option Nat) (ho : ∀ B, o = some B → c.w.heap.size ≤ B) : Ev c (c.add w b o) := by
  refine ⟨h.os, h.tape, h.output, h.size, by simp [Cx.add], fun B hB _ => h.old B hB, fun id b' hb => ⟨b', ?_, ?_⟩, ?_⟩
  · have := lt_of_get hb
    simp only [Cx.add]
    rw [List.getElem?_append_left this]; exact hb
  · have hlt := lt_of_get hb
    have hne : ¬ id = c.h.length := by omega
    have hρ : (c.add w b o).ρ id = c.ρ id := by simp [Cx.add, hne]
    cases b' with
    | cells ty s xs => exact ⟨xs, rfl, hρ⟩
    | grow e s n => exact ⟨n, rfl, Nat.le_refl _, fun _ => hρ, fun B hB => .inl (by rw [← hρ]; exact hB), fun B cur hρ' hc => ⟨cur, (h.old B (hs.lt hb rfl hρ')).trans hc, rfl, fun _ _ => rfl⟩⟩
    | map es => exact ⟨es, rfl, hρ⟩
    | loop i => exact ⟨i, rfl, hρ⟩
    | dead => rfl
  · intro id B b' h1 h2 hl hρ
    have hlt := lt_of_get h2
    simp only [Cx.add, List.length_append, List.length_cons, List.length_nil] at hlt
    have e : id = c.h.length := by omega
    subst e
    simp only [Cx.add, if_true] at hρ
    exact ho B hρ

theorem St.add {c : Cx} (hs : St c) {w : World} (h : Grows c.w w) (b : AB) (o : Option Nat) (ho : ∀ B, o = some B → c.w.heap.size ≤ B) (hb : BR (c.add w b o) c.h.length b) : St (c.add w b o) := by
  have he := Ev.add hs h b o ho
  have old : ∀ id b', id ≠ c.h.length → (c.add w b o).h[id]? = some b' → c.h[id]? = some b' ∧ (c.add w b o).ρ id = c.ρ id := by
    intro id b' hne hg
    have hlt := lt_of_get hg
    simp only [Cx.add, List.length_append, List.length_cons, List.length_nil] at hlt
    simp only [Cx.add] at hg ⊢
    rw [List.getElem?_append_left (by omega)] at hg
    exact ⟨hg, if_neg hne⟩
  have new : (c.add w b o).h[c.h.length]? = some b := by simp [Cx.add]
  have newρ : (c.add w b o).ρ c.h.length = o := by simp [Cx.add]
  refine ⟨fun id b' hg => ?_, fun i j a b' B hi hj hla hlb hρi hρj => ?_⟩
  · by_cases hne : id = c.h.length
    · subst hne; rw [new] at hg; cases hg; exact hb
    · obtain ⟨h1, h2⟩ := old id b' hne hg
      exact (hs.blocks id b' h1).ev hs he h2 (fun B hl hρ => h.old B (hs.lt h1 hl hρ))
  · by_cases hni : i = c.h.length
    · by_cases hnj : j = c.h.length
      · omega
      · obtain ⟨h1, h2⟩ := old j b' hnj hj
        rw [h2] at hρj
        have h3 := hs.lt h1 hlb hρj
        subst hni
        rw [newρ] at hρi
        have := ho B hρi; omega
    · obtain ⟨h1, h2⟩ := old i a hni hi
      rw [h2] at hρi
      by_cases hnj : j = c.h.length
      · have h3 := hs.lt h1 hla hρi
        subst hnj
        rw [newρ] at hρj
        have := ho B hρj; omega
      · obtain ⟨h4, h5⟩ := old j b' hnj hj
        rw [h5] at hρj
        exact hs.inj i j a b' B h1 h4 hla hlb hρi hρj

/-- one abstract block turns, with its block of the world -/
def Cx.turn (c : Cx) (w : World) (id : Nat) (b : AB) : Cx := { c with h := c.h.set id b, w := w }

theorem Ev.turn {c : Cx} (hs : St c) {w : World} {id B : Nat} {b b' : AB} (hb : c.h[id]? = some b) (hl : b.live = true) (hρ : c.ρ id = some B) (hos : w.os = c.w.os) (ht : w.tape = c.w.tape) (ho : w.output = c.w.output)
    (hsz : w.heap.size = c.w.heap.size) (hold : ∀ k, k ≠ B → w.heap[k]? = c.w.heap[k]?) (hk : Kin c (c.turn w id b') id b b') : Ev c (c.turn w id b') := by
  refine ⟨hos, ht, ho, by simp [Cx.turn, hsz], by simp [Cx.turn], fun k hk' hno => hold k (fun e => hno ⟨id, b, hb, hl, e ▸ hρ⟩), fun i bi hbi => ?_, fun i k bi h1 h2 => by have := lt_of_get h2; simp [Cx.turn] at this; omega⟩
  by_cases hi : i = id
  · subst hi
    rw [hb] at hbi; cases hbi
    exact ⟨b', by simp [Cx.turn, lt_of_get hb], hk⟩
  · refine ⟨bi, by simp only [Cx.turn]; rw [List.getElem?_set_ne (fun e => hi e.symm)]; exact hbi, ?_⟩
    cases bi with
    | cells ty s xs => exact ⟨xs, rfl, rfl⟩
    | grow e s n =>
      exact ⟨n, rfl, Nat.le_refl _, fun _ => rfl, fun B hB => .inl hB, fun k cur hk' hc => ⟨cur, (hold k (fun e => hi (hs.inj i id _ _ k hbi hb rfl hl hk' (e ▸ hρ)))).trans hc, rfl, fun _ _ => rfl⟩⟩
    | map es => exact ⟨es, rfl, rfl⟩
    | loop i => exact ⟨i, rfl, rfl⟩
    | dead => rfl

theorem St.turn {c : Cx} (hs : St c) {w : World} {id B : Nat} {b b' : AB} (hb : c.h[id]? = some b) (hl : b.live = true) (hρ : c.ρ id = some B)
    (hold : ∀ k, k ≠ B → w.heap[k]? = c.w.heap[k]?) (he : Ev c (c.turn w id b')) (hb' : BR (c.turn w id b') id b') : St (c.turn w id b') := by
  have old : ∀ i bi, i ≠ id → (c.turn w id b').h[i]? = some bi → c.h[i]? = some bi := by
    intro i bi hi hg
    simp only [Cx.turn] at hg
    rwa [List.getElem?_set_ne (fun e => hi e.symm)] at hg
  refine ⟨fun i bi hg => ?_, fun i j a b2 k hi hj hla hlb hρi hρj => ?_⟩
  · by_cases hi : i = id
    · subst hi
      have : (c.turn w i b').h[i]? = some b' := by simp [Cx.turn, lt_of_get hb]
      rw [this] at hg; cases hg; exact hb'
    · have h1 := old i bi hi hg
      exact (hs.blocks i bi h1).ev hs he rfl (fun k hlk hk => hold k (fun e => hi (hs.inj i id _ _ k h1 hb hlk hl hk (e ▸ hρ))))
  · by_cases hi' : i = id
    · by_cases hj' : j = id
      · omega
      · subst hi'
        exact hs.inj _ _ _ _ _ hb (old j b2 hj' hj) hl hlb hρi hρj
    · by_cases hj' : j = id
      · subst hj'
        exact hs.inj _ _ _ _ _ (old i a hi' hi) hb hla hl hρi hρj
      · exact hs.inj _ _ _ _ _ (old i a hi' hi) (old j b2 hj' hj) hla hlb hρi hρj

/-! ### rows of cells -/

theorem flat_nil : flat [] = [] := rfl
theorem flat_cons (x : AV) (xs : List AV) : flat (x :: xs) = x.cells ++ flat xs := rfl
theorem flat_append (xs ys : List AV) : flat (xs ++ ys) = flat xs ++ flat ys := by simp [flat]

theorem flat_length {s : Nat} : ∀ {xs : List AV}, (∀ x ∈ xs, x.cells.length = s) → (flat xs).length = xs.length * s
  | [], _ => by simp [flat]
  | x :: xs, h => by
    rw [flat_cons, List.length_append, h x (by simp), flat_length (xs := xs) (fun y hy => h y (by simp [hy])), List.length_cons, Nat.add_mul]
    omega

theorem flat_get {s : Nat} : ∀ {xs : List AV} {k j : Nat} {x a : AV}, (∀ x ∈ xs, x.cells.length = s) → xs[k]? = some x → x.cells[j]? = some a → (flat xs)[k * s + j]? = some a
  | [], k, j, x, a, _, hk, _ => by simp at hk
  | y :: xs, 0, j, x, a, _, hk, hj => by
    simp at hk
    subst hk
    rw [flat_cons, List.getElem?_append_left (by simpa using lt_of_get hj)]
    simpa using hj
  | y :: xs, k + 1, j, x, a, h, hk, hj => by
    simp at hk
    have h0 := h y (by simp)
    rw [flat_cons, List.getElem?_append_right (by rw [h0, Nat.add_mul]; omega), h0]
    have e : (k + 1) * s + j - s = k * s + j := by rw [Nat.add_mul]; omega
    rw [e]
    exact flat_get (fun y hy => h y (by simp [hy])) hk hj

theorem flat_set_get {s : Nat} {x' : AV} (hx' : x'.cells.length = s) : ∀ {xs : List AV} {k : Nat} (j : Nat), (∀ x ∈ xs, x.cells.length = s) → k < xs.length →
    (flat (xs.set k x'))[j]? = if k * s ≤ j ∧ j < k * s + s then x'.cells[j - k * s]? else (flat xs)[j]?
  | [], k, j, _, hk => by simp at hk
  | y :: xs, 0, j, h, _ => by
    have h0 := h y (by simp)
    rw [List.set_cons_zero, flat_cons, flat_cons, List.getElem?_append, List.getElem?_append, hx', h0]
    by_cases hj : j < s
    · simp [hj]
    · simp [hj]
  | y :: xs, k + 1, j, h, hk => by
    have h0 := h y (by simp)
    rw [List.set_cons_succ, flat_cons, flat_cons, List.getElem?_append, List.getElem?_append, h0]
    by_cases hj : j < s
    · have : ¬ ((k + 1) * s ≤ j ∧ j < (k + 1) * s + s) := by rw [Nat.add_mul]; omega
      simp [hj, this]
    · simp only [hj, if_false]
      rw [flat_set_get hx' (j - s) (fun z hz => h z (by simp [hz])) (by simpa using hk)]
      have e1 : (k * s ≤ j - s ∧ j - s < k * s + s) ↔ ((k + 1) * s ≤ j ∧ j < (k + 1) * s + s) := by rw [Nat.add_mul]; omega
      have e2 : j - s - k * s = j - (k + 1) * s := by rw [Nat.add_mul]; omega
      simp only [e1, e2]

/-- the cells from (B, o) on read as these elements -/
def Row (c : Cx) (B o : Nat) (xs : List AV) : Prop :=
  ∀ (j : Nat) a, (flat xs)[j]? = some a → ∃ u, c.w.cell? ⟨B, o + j, none⟩ = some u ∧ u.oneCell' = true ∧ Rel c a u

theorem Row.of_block {c : Cx} {B ty : Nat} {cur : Array Value} {xs : List AV} (hB : c.w.heap[B]? = some (.cells cur ty (0, 0)))
    (h : ∀ (j : Nat) a, (flat xs)[j]? = some a → ∃ u, cur[j]? = some u ∧ u.oneCell' = true ∧ Rel c a u) : Row c B 0 xs := by
  intro j a hj
  obtain ⟨u, h1, h2, h3⟩ := h j a hj
  exact ⟨u, by rw [Nat.zero_add, cell_cells hB]; exact h1, h2, h3⟩

/-- what is known of a type: is it a struct or an array; its cells -/
def tyInfo (P : Program) (t : TypeId) : Option (Bool × Nat) :=
  match P.underlying t, P.info? t with
  | some (.struct _), some i => some (true, i.size)
  | some (.array _ _), some i => some (true, i.size)
  | some _, some i => some (false, i.size)
  | _, _ => none

theorem tyInfo_run {P : Program} {t : TypeId} {b : Bool} {n : Nat} (h : tyInfo P t = some (b, n)) (w : World) : (isAgg t).run P w = .ok b w ∧ (sizeOf t).run P w = .ok n w := by
  unfold tyInfo at h
  cases hu : P.underlying t with
  | none => simp [hu] at h
  | some d =>
    cases hi : P.info? t with
    | none => cases d <;> simp [hu, hi] at h
    | some i =>
      refine ⟨?_, ?_⟩
      · cases d <;> simp [hu, hi] at h <;> simp [isAgg, underlying, hu, h.1]
      · cases d <;> simp [hu, hi] at h <;> simp [sizeOf, typeInfo, hi, h.2]

/-- a part of an element -/
def aPart (P : Program) (t : TypeId) (x : AV) (off : Nat) : Option AV :=
  match tyInfo P t with
  | some (true, n) => if off = 0 ∧ x.isAgg = true ∧ x.cells.length = n then some x else if off + n ≤ x.cells.length then some (.agg ((x.cells.drop off).take n)) else none
  | some (false, _) => x.cells[off]?
  | none => none

theorem rel_agg_range {c : Cx} {l : List AV} {f : Nat → Value} (h : ∀ (j : Nat) a, l[j]? = some a → Rel c a (f j)) : Rel c (.agg l) (.agg ((List.range l.length).map f).toArray) := by
  refine .agg l _ (by simp) ?_
  intro j a u ha hu
  have hlt := lt_of_get ha
  simp [hlt] at hu
  rw [← hu]
  exact h j a ha

theorem AV.eq_agg {x : AV} (h : x.isAgg = true) : x = .agg x.cells := by
  cases x <;> simp_all [AV.isAgg, AV.cells]

theorem load_sound {P : Program} {c : Cx} {t : TypeId} {B o s k off : Nat} {xs : List AV} {x r : AV} (hrow : Row c B o xs) (hs : ∀ x ∈ xs, x.cells.length = s) (hk : xs[k]? = some x) (hp : aPart P t x off = some r) :
    ∃ u, (Instr.loadAt t (.pointer (some ⟨B, o + (k * s + off), none⟩))).run P c.w = .ok u c.w ∧ Rel c r u := by
  have cellAt : ∀ (j : Nat) a, x.cells[off + j]? = some a → ∃ u, c.w.cell? ⟨B, o + (k * s + off) + j, none⟩ = some u ∧ u.oneCell' = true ∧ Rel c a u := by
    intro j a ha
    have := hrow _ a (flat_get hs hk ha)
    rwa [show o + (k * s + (off + j)) = o + (k * s + off) + j by omega] at this
  unfold aPart at hp
  cases hti : tyInfo P t with
  | none => simp [hti] at hp
  | some bn =>
    obtain ⟨b, n⟩ := bn
    obtain ⟨hagg, hsize⟩ := tyInfo_run hti c.w
    cases b with
    | false =>
      simp only [hti] at hp
      obtain ⟨u, h1, h2, h3⟩ := cellAt 0 r hp
      rw [Nat.add_zero] at h1
      exact ⟨u, by simp [Instr.loadAt, Instr.sureAddr, loadVar, hagg, h1], h3⟩
    | true =>
      simp only [hti] at hp
      -- the list of cells that is read
      have main : ∀ l : List AV, l.length = n → (∀ (j : Nat) a, l[j]? = some a → x.cells[off + j]? = some a) →
          ∃ u, (Instr.loadAt t (.pointer (some ⟨B, o + (k * s + off), none⟩))).run P c.w = .ok u c.w ∧ Rel c (.agg l) u := by
        intro l hl hget
        have hc : ∀ j, j < n → c.w.cell? ((⟨B, o + (k * s + off), none⟩ : Addr).add j) = some ((c.w.cell? ⟨B, o + (k * s + off) + j, none⟩).getD undef) := by
          intro j hj
          obtain ⟨a, ha⟩ : ∃ a, l[j]? = some a := ⟨_, List.getElem?_eq_getElem (by omega)⟩
          obtain ⟨u, h1, _⟩ := cellAt j a (hget j a ha)
          rw [addr_add, h1]; rfl
        have hr := run_loadCells (P := P) c.w ⟨B, o + (k * s + off), none⟩ n (fun j => (c.w.cell? ⟨B, o + (k * s + off) + j, none⟩).getD undef) hc
        refine ⟨_, by simp only [Instr.loadAt, Instr.sureAddr, loadVar, Sem.run_bind, Sem.run_pure, Result.andThen_ok, hagg, hsize, Sem.run_ite, if_true, hr]; rfl, ?_⟩
        rw [← hl]
        refine rel_agg_range ?_
        intro j a ha
        obtain ⟨u, h1, _, h3⟩ := cellAt j a (hget j a ha)
        rw [h1]; exact h3
      split at hp
      · rename_i h
        obtain ⟨h1, h2, h3⟩ := h
        cases hp
        subst h1
        obtain ⟨u, h4, h5⟩ := main x.cells h3 (fun j a ha => by rw [Nat.zero_add]; exact ha)
        exact ⟨u, h4, by rw [AV.eq_agg h2]; exact h5⟩
      · split at hp
        · rename_i h
          cases hp
          refine main _ (by simp; omega) (fun j a ha => ?_)
          have hlt := lt_of_get ha
          rw [List.getElem?_take_of_lt (by simp at hlt; omega), List.getElem?_drop] at ha
          exact ha
        · cases hp

end Go.Proofs.Ytplnbmldkgcedaa.Ab
