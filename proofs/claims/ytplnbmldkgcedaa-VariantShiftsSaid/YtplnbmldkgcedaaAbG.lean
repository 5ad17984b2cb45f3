/-
  The abstract program logic: append.
-/
import Derived.Test.YtplnbmldkgcedaaAbF
set_option linter.unusedVariables false
set_option maxHeartbeats 4000000
namespace Go.Proofs.Ytplnbmldkgcedaa.Ab

/-- the elements of a slice that is read -/
def srcOf (n : Nat) (h : AH) : AV → Option (List AV)
  | .v (.slice none 0 0) => some []
  | .sl s xs _ => if s = n then some xs else none
  | .arr id lo len => match h[id]? with
    | some (.cells _ s xs) => if s = n ∧ lo + len ≤ xs.length then some ((xs.drop lo).take len) else none
    | _ => none
  | _ => none

theorem flat_drop {s : Nat} : ∀ {xs : List AV} {k : Nat}, (∀ x ∈ xs, x.cells.length = s) → k ≤ xs.length → flat (xs.drop k) = (flat xs).drop (k * s)
  | xs, 0, _, _ => by simp
  | [], k + 1, _, h => by simp at h
  | x :: xs, k + 1, h, hk => by
    have h0 := h x (by simp)
    rw [List.drop_succ_cons, flat_cons, flat_drop (fun y hy => h y (by simp [hy])) (by simpa using hk), List.drop_append, h0]
    rw [List.drop_eq_nil_of_le (as := x.cells) (by rw [h0, Nat.add_mul]; omega), List.nil_append]
    congr 1; rw [Nat.add_mul]; omega

theorem flat_take {s : Nat} : ∀ {xs : List AV} {k : Nat}, (∀ x ∈ xs, x.cells.length = s) → k ≤ xs.length → flat (xs.take k) = (flat xs).take (k * s)
  | xs, 0, _, _ => by simp [flat]
  | [], k + 1, _, h => by simp at h
  | x :: xs, k + 1, h, hk => by
    have h0 := h x (by simp)
    rw [List.take_succ_cons, flat_cons, flat_cons, flat_take (fun y hy => h y (by simp [hy])) (by simpa using hk), List.take_append, h0]
    rw [List.take_of_length_le (l := x.cells) (by rw [h0, Nat.add_mul]; omega)]
    congr 2; rw [Nat.add_mul]; omega

/-- what a source gives: no cells, or a row -/
theorem src_sound {c : Cx} (hst : St c) {n : Nat} {x : AV} {u : Value} {ys : List AV} (hs : srcOf n c.h x = some ys) (hx : Rel c x u) :
    (∀ y ∈ ys, y.cells.length = n) ∧ (((u = .slice none 0 0 ∨ ∃ ad : Addr, u = .slice (some ad) 0 0) ∧ ys = []) ∨ ∃ B o cap, u = .slice (some ⟨B, o, none⟩) ys.length cap ∧ Row c B o ys ∧ ys.length ≤ cap ∧ cap ≤ maxLen) := by
  cases hx with
  | v u =>
    have : u = .slice none 0 0 ∧ ys = [] := by
      unfold srcOf at hs
      split at hs <;> simp_all
    obtain ⟨rfl, rfl⟩ := this
    exact ⟨by simp, .inl ⟨.inl rfl, rfl⟩⟩
  | slnil s own ht => simp only [srcOf] at hs; split at hs <;> simp_all
  | slzero s own ba ht =>
    simp only [srcOf] at hs
    split at hs
    · cases hs
      exact ⟨by simp, .inl ⟨.inr ⟨_, rfl⟩, rfl⟩⟩
    · cases hs
  | sl s xs own B o cap f hs' hcap hmax hc hr ht =>
    simp only [srcOf] at hs
    split at hs
    · rename_i e; cases hs; subst e
      exact ⟨hs', .inr ⟨B, o, cap, rfl, fun j a hj => ⟨f j, (hc j a hj).1.1, (hc j a hj).2, hr j a hj⟩, hcap, hmax⟩⟩
    · cases hs
  | arr id lo len x hid ho h1 =>
    simp only [srcOf] at hs
    split at hs
    · rename_i ty s xs hb
      split at hs
      · rename_i hh
        obtain ⟨rfl, hle⟩ := hh
        cases hs
        obtain ⟨B, cap, hρ, rfl, h6, h7⟩ := h1 _ _ _ hb
        obtain ⟨B', cur, h2, h3, h4, h5⟩ := hst.blocks id _ hb
        rw [hρ] at h2; cases h2
        have hl : ((xs.drop lo).take len).length = len := by simp; omega
        refine ⟨fun y hy => h4 y (List.mem_of_mem_drop (List.mem_of_mem_take hy)), .inr ⟨B, lo * s, cap, by rw [hl], ?_, by omega, h7⟩⟩
        intro j a hj
        rw [flat_take (fun y hy => h4 y (List.mem_of_mem_drop hy)) (by simp; omega)] at hj
        have hlt := lt_of_get hj
        rw [List.getElem?_take_of_lt (by rw [List.length_take] at hlt; omega), flat_drop h4 (by omega), List.getElem?_drop] at hj
        obtain ⟨u, h6, h7, h8⟩ := h5 _ a hj
        exact ⟨u, by rw [cell_cells h3]; exact h6, h7, h8⟩
      · cases hs
    · cases hs
  | _ => simp [srcOf] at hs

/-- a growing slice moves to a new block -/
def Cx.move (c : Cx) (w : World) (id : Nat) (b : AB) (o : Option Nat) : Cx :=
  { ρ := fun i => if i = id then o else c.ρ i, h := c.h.set id b, w := w }

theorem Ev.move {c : Cx} (hs : St c) {w : World} (h : Grows c.w w) {id : Nat} {e : TypeId} {s n n' : Nat} {o : Option Nat} (hb : c.h[id]? = some (.grow e s n)) (hn : n < n') (ho : ∀ B, o = some B → c.w.heap.size ≤ B) :
    Ev c (c.move w id (.grow e s n') o) := by
  refine ⟨h.os, h.tape, h.output, h.size, by simp [Cx.move], fun B hB _ => h.old B hB, fun i bi hbi => ?_, fun i B b h1 h2 => by have := lt_of_get h2; simp [Cx.move] at this; omega⟩
  by_cases hi : i = id
  · subst hi
    rw [hb] at hbi; cases hbi
    refine ⟨.grow e s n', by simp [Cx.move, lt_of_get hb], n', rfl, by omega, fun e => by omega, fun B hB => ?_, fun B cur hρ hc => ⟨cur, (h.old B (hs.lt hb rfl hρ)).trans hc, rfl, fun _ _ => rfl⟩⟩
    simp only [Cx.move, if_true] at hB
    exact .inr (ho B hB)
  · refine ⟨bi, by simp only [Cx.move]; rw [List.getElem?_set_ne (fun e => hi e.symm)]; exact hbi, ?_⟩
    have hρ : (c.move w id (.grow e s n') o).ρ i = c.ρ i := by simp [Cx.move, hi]
    cases bi with
    | cells ty s xs => exact ⟨xs, rfl, hρ⟩
    | grow e s n => exact ⟨n, rfl, Nat.le_refl _, fun _ => hρ, fun B hB => .inl (by rw [← hρ]; exact hB), fun B cur hρ' hc => ⟨cur, (h.old B (hs.lt hbi rfl hρ')).trans hc, rfl, fun _ _ => rfl⟩⟩
    | map es => exact ⟨es, rfl, hρ⟩
    | loop i => exact ⟨i, rfl, hρ⟩
    | dead => rfl

theorem St.move {c : Cx} (hs : St c) {w : World} (h : Grows c.w w) {id : Nat} {e : TypeId} {s n n' : Nat} {o : Option Nat} (hb : c.h[id]? = some (.grow e s n)) (hn : n < n') (ho : ∀ B, o = some B → c.w.heap.size ≤ B)
    (hb' : BR (c.move w id (.grow e s n') o) id (.grow e s n')) : St (c.move w id (.grow e s n') o) := by
  have he := Ev.move hs h hb hn ho
  have old : ∀ i bi, i ≠ id → (c.move w id (.grow e s n') o).h[i]? = some bi → c.h[i]? = some bi ∧ (c.move w id (.grow e s n') o).ρ i = c.ρ i := by
    intro i bi hi hg
    simp only [Cx.move] at hg
    rw [List.getElem?_set_ne (fun e => hi e.symm)] at hg
    exact ⟨hg, by simp [Cx.move, hi]⟩
  have new : (c.move w id (.grow e s n') o).h[id]? = some (.grow e s n') := by simp [Cx.move, lt_of_get hb]
  have newρ : (c.move w id (.grow e s n') o).ρ id = o := by simp [Cx.move]
  refine ⟨fun i bi hg => ?_, fun i j a b2 k hi hj hla hlb hρi hρj => ?_⟩
  · by_cases hi : i = id
    · subst hi; rw [new] at hg; cases hg; exact hb'
    · obtain ⟨h1, h2⟩ := old i bi hi hg
      exact (hs.blocks i bi h1).ev hs he h2 (fun B hl hρ => h.old B (hs.lt h1 hl hρ))
  · by_cases hi' : i = id
    · by_cases hj' : j = id
      · omega
      · obtain ⟨h1, h2⟩ := old j b2 hj' hj
        rw [h2] at hρj
        have := hs.lt h1 hlb hρj
        subst hi'; rw [newρ] at hρi
        have := ho k hρi; omega
    · obtain ⟨h1, h2⟩ := old i a hi' hi
      rw [h2] at hρi
      by_cases hj' : j = id
      · have := hs.lt h1 hla hρi
        subst hj'; rw [newρ] at hρj
        have := ho k hρj; omega
      · obtain ⟨h3, h4⟩ := old j b2 hj' hj
        rw [h4] at hρj
        exact hs.inj i j a b2 k h1 h3 hla hlb hρi hρj

/-- a slice whose token is at its end -/
theorem rel_sl_tip {c : Cx} (hs : St c) {b B s cap : Nat} {e : TypeId} {xs : List AV} {cur : Array Value} (hb : c.h[b]? = some (.grow e s xs.length)) (hρ : c.ρ b = some B) (hB : c.w.heap[B]? = some (.cells cur e (0, 0)))
    (hsz : cur.size = cap * s) (hcap : xs.length ≤ cap) (hmax : cap ≤ maxLen) (hxs : ∀ x ∈ xs, x.cells.length = s)
    (hr : ∀ (j : Nat) a, (flat xs)[j]? = some a → ∃ u, cur[j]? = some u ∧ u.oneCell' = true ∧ Rel c a u) : Rel c (.sl s xs (some b)) (.slice (some ⟨B, 0, none⟩) xs.length cap) := by
  have hf : ∀ (j : Nat) a, (flat xs)[j]? = some a → cur[j]? = some (cur.getD j undef) ∧ (cur.getD j undef).oneCell' = true ∧ Rel c a (cur.getD j undef) := by
    intro j a ha
    obtain ⟨u, h1, h2, h3⟩ := hr j a ha
    have : cur.getD j undef = u := by rw [Array.getD_eq_getD_getElem?, h1]; rfl
    rw [this]; exact ⟨h1, h2, h3⟩
  refine .sl s xs (some b) B 0 cap (fun j => cur.getD j undef) hxs hcap hmax ?_ (fun j a ha => (hf j a ha).2.2) ?_
  · intro j a ha
    refine ⟨⟨by rw [Nat.zero_add, cell_cells hB]; exact (hf j a ha).1, hs.lt hb rfl hρ, ?_⟩, (hf j a ha).2.1⟩
    intro id b' hb' hl hρ'
    have := hs.inj id b b' _ B hb' hb hl rfl hρ' hρ
    subst this
    rw [hb] at hb'; cases hb'
    refine ⟨e, s, xs.length, rfl, ?_⟩
    have := lt_of_get ha
    rw [flat_length hxs] at this
    omega
  · intro b' hb'
    cases hb'
    refine ⟨⟨lt_of_get hb, by rw [hb]; intro h; cases h⟩, fun e' s' n hg => ?_⟩
    rw [hb] at hg; cases hg
    exact ⟨rfl, Nat.le_refl _, fun _ => ⟨rfl, hρ, hcap, hmax, cur, hB, hsz⟩⟩

structure AppInfo where
  e : TypeId
  n : Nat
  bytes : Nat

def appInfo (P : Program) (t t' : TypeId) : Option AppInfo :=
  match P.underlying t, P.underlying t' with
  | some (.slice e), some (.slice _) =>
    match P.info? e with
    | some i => match i.zero with
      | some z => if 0 < i.size ∧ z.cells.size = i.size then some ⟨e, i.size, i.bytes⟩ else none
      | none => none
    | none => none
  | _, _ => none

theorem appInfo_spec {P : Program} {t t' : TypeId} {a : AppInfo} (h : appInfo P t t' = some a) :
    ∃ i z e', P.underlying t = some (.slice a.e) ∧ P.underlying t' = some (.slice e') ∧ P.info? a.e = some i ∧ i.zero = some z ∧ i.size = a.n ∧ i.bytes = a.bytes ∧ z.cells.size = a.n ∧ 0 < a.n := by
  unfold appInfo at h
  cases hu : P.underlying t with
  | none => simp [hu] at h
  | some d =>
    cases hu' : P.underlying t' with
    | none => cases d <;> simp [hu, hu'] at h
    | some d' =>
      cases d with
      | slice e =>
        cases d' with
        | slice e' =>
          simp only [hu, hu'] at h
          cases hi : P.info? e with
          | none => simp [hi] at h
          | some i =>
            cases hz : i.zero with
            | none => simp [hi, hz] at h
            | some z =>
              simp only [hi, hz] at h
              split at h
              · rename_i hh
                cases h
                exact ⟨i, z, e', rfl, rfl, hi, hz, rfl, rfl, hh.2, hh.1⟩
              · cases h
        | _ => simp [hu, hu'] at h
      | _ => simp [hu] at h

/-- the second type of append's plays no part -/
theorem append_types {P : Program} {t t' ty e e' : TypeId} (hu : P.underlying t = some (.slice e)) (hu' : P.underlying t' = some (.slice e')) (args : Array Value) (w : World) :
    (Builtin.append_ #[t, t'] ty args).run P w = (Builtin.append_ #[t, t] ty args).run P w := by
  unfold Builtin.append_
  simp only [List.getElem?_toArray, List.getElem?_cons_zero, List.getElem?_cons_succ]
  split
  · rename_i heq
    simp only [Prod.mk.injEq, Option.some.injEq] at heq
    obtain ⟨rfl, _, _⟩ := heq
    simp only [Sem.run_bind, underlying, run_program, Result.andThen_ok, hu, Sem.run_pure]
    split
    · simp only [Sem.run_bind, run_program, Result.andThen_ok, hu, hu', Sem.run_pure]
    · rfl
  · rfl

def aAppend (P : Program) (t t' : TypeId) (s x : AV) (h : AH) : Option (AV × AH) :=
  match appInfo P t t' with
  | some a =>
    match srcOf a.n h x with
    | some ys =>
      match s with
      | .v (.slice none 0 0) => if ys.length ≤ maxLen ∧ ys.length * a.bytes ≤ 140737488355328 then some (.sl a.n ys (some h.length), h ++ [.grow a.e a.n ys.length]) else none
      | .sl m xs (some b) => match h[b]? with
        | some (.grow e n k) => if m = a.n ∧ e = a.e ∧ n = a.n ∧ k = xs.length ∧ xs.length + ys.length ≤ maxLen ∧ (xs.length + ys.length) * a.bytes ≤ 140737488355328 then
            some (.sl m (xs ++ ys) (some b), h.set b (.grow a.e a.n (xs.length + ys.length))) else none
        | some .dead => if m = a.n ∧ xs.isEmpty = true ∧ ys.length ≤ maxLen ∧ ys.length * a.bytes ≤ 140737488355328 then
            (if ys.isEmpty then some (.sl m [] none, h) else some (.arr h.length 0 ys.length, h ++ [.cells a.e a.n ys])) else none
        | _ => none
      | _ => none
    | none => none
  | none => none

end Go.Proofs.Ytplnbmldkgcedaa.Ab
