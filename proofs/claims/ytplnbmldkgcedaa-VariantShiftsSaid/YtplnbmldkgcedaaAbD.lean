/-
  The abstract program logic: one lemma for each operation (memory, addresses, values).
-/
import Derived.Test.YtplnbmldkgcedaaAbC
set_option linter.unusedVariables false
set_option maxHeartbeats 4000000
namespace Go.Proofs.Ytplnbmldkgcedaa.Ab

/-! ### operations that look at no memory -/

def pv {α : Type} (P : Program) : Sem α → Option α
  | .pure a => some a
  | .program k => pv P (k P)
  | .mark _ k => pv P k
  | _ => none

theorem pv_run {α : Type} {P : Program} : ∀ {s : Sem α} {a : α}, pv P s = some a → ∀ w, s.run P w = .ok a w
  | .pure b, a, h, w => by simp only [pv] at h; cases h; rfl
  | .program k, a, h, w => by simp only [pv] at h; exact pv_run (s := k P) h w
  | .mark m k, a, h, w => by simp only [pv] at h; exact pv_run (s := k) h w
  | .load _ _ _, a, h, w | .store _ _ _ _, a, h, w | .new _ _, a, h, w | .shape _ _, a, h, w | .freeze _ _ _, a, h, w | .frozen _ _, a, h, w | .getObj _ _, a, h, w
  | .setObj _ _ _, a, h, w | .choose _ _, a, h, w | .sys _ _, a, h, w | .halt _, a, h, w => by simp [pv] at h

/-! ### cells of a value -/

theorem rel_one {c : Cx} {a : AV} {u : Value} (h : Rel c a u) (h1 : a.cell1 = true) : u.oneCell' = true := by
  cases h <;> first | rfl | exact h1 | assumption | (exact absurd h1 (by simp [AV.cell1]))

theorem rel_cells {c : Cx} {a : AV} {u : Value} (h : Rel c a u) (h1 : a.cells1 = true) : RelL c a.cells u.cells ∧ ∀ x ∈ u.cells.toList, x.oneCell' = true := by
  by_cases hag : a.isAgg = true
  · cases h with
    | agg l cs hl hh =>
      refine ⟨⟨hl, hh⟩, ?_⟩
      intro x hx
      obtain ⟨j, hj, rfl⟩ := List.getElem_of_mem hx
      simp only [Value.cells, Array.length_toList] at hj
      simp only [AV.cells1, AV.cells, List.all_eq_true] at h1
      have hj' : j < l.length := by omega
      exact rel_one (hh j l[j] _ (List.getElem?_eq_getElem hj') (by simp [Value.cells, hj])) (h1 _ (List.getElem_mem hj'))
    | _ => simp [AV.isAgg] at hag
  · have hc : a.cells = [a] := by cases a <;> simp_all [AV.cells, AV.isAgg]
    have h2 : a.cell1 = true := by simpa [AV.cells1, hc] using h1
    have ho := rel_one h h2
    have hu : u.cells = #[u] := by cases u <;> simp_all [Value.cells, Value.oneCell']
    rw [hc, hu]
    refine ⟨⟨rfl, ?_⟩, ?_⟩
    · intro j b x hb hx
      cases j with
      | zero => simp at hb hx; subst hb; subst hx; exact h
      | succ j => simp at hb
    · intro x hx; simp at hx; subst hx; exact ho

/-! ### addresses -/

def fieldInfo (P : Program) (s : TypeId) (i : Nat) : Option (Nat × TypeId) :=
  match P.underlying s with
  | some (.struct fs) =>
    match fs[i]? with
    | some f => match tyInfo P f.type with
      | some (_, n) => if n = 0 then none else some (f.offset, f.type)
      | none => none
    | none => none
  | _ => none

def aFieldAddr (P : Program) (s : TypeId) (x : AV) (i : Nat) (h : AH) : Option AV :=
  match fieldInfo P s i with
  | some (o, _) =>
    match x with
    | .ptr id k off => match h[id]? with
      | some (.cells _ _ _) => some (.ptr id k (off + o))
      | _ => none
    | .pin n xs k off => some (.pin n xs k (off + o))
    | _ => none
  | none => none

theorem fieldAt_run {P : Program} {s : TypeId} {i o : Nat} {t : TypeId} (h : fieldInfo P s i = some (o, t)) (B p : Nat) (w : World) :
    (Instr.fieldAt s (.pointer (some ⟨B, p, none⟩)) i).run P w = .ok (.pointer (some ⟨B, p + o, none⟩)) w := by
  unfold fieldInfo at h
  cases hu : P.underlying s with
  | none => simp [hu] at h
  | some d =>
    cases d with
    | struct fs =>
      simp only [hu] at h
      cases hf : fs[i]? with
      | none => simp [hf] at h
      | some f =>
        simp only [hf] at h
        cases ht : tyInfo P f.type with
        | none => simp [ht] at h
        | some bn =>
          obtain ⟨b, n⟩ := bn
          simp only [ht] at h
          split at h
          · cases h
          · rename_i hn
            cases h
            obtain ⟨_, h2⟩ := tyInfo_run ht w
            simp [Instr.fieldAt, underlying, hu, hf, Instr.sureAddr, fieldPlace, h2, hn, addr_add]
    | _ => simp [hu] at h

theorem fieldAddr_sound {P : Program} {c : Cx} {s : TypeId} {x r : AV} {i : Nat} {u : Value} (ha : aFieldAddr P s x i c.h = some r) (hx : Rel c x u) :
    ∃ y, (Instr.fieldAt s u i).run P c.w = .ok y c.w ∧ Rel c r y := by
  unfold aFieldAddr at ha
  cases hf : fieldInfo P s i with
  | none => simp [hf] at ha
  | some ot =>
    obtain ⟨o, t⟩ := ot
    simp only [hf] at ha
    cases hx with
    | ptr id k off x hid ho h1 =>
      simp only at ha
      split at ha
      · rename_i ty n xs hb
        cases ha
        obtain ⟨B, hρ, rfl⟩ := h1 _ _ _ hb
        refine ⟨_, fieldAt_run hf B _ c.w, .ptr id k (off + o) _ hid rfl ?_⟩
        intro ty' s' xs' hb'
        rw [hb] at hb'; cases hb'
        exact ⟨B, hρ, by rw [Nat.add_assoc]⟩
      · cases ha
    | pin n xs k off B o' f hs hc hr =>
      simp only at ha
      cases ha
      refine ⟨_, fieldAt_run hf B _ c.w, ?_⟩
      have := Rel.pin (c := c) n xs k (off + o) B o' f hs hc hr
      rwa [show o' + (k * n + (off + o)) = o' + (k * n + off) + o by omega] at this
    | _ => simp at ha

def elemInfo (P : Program) (t : TypeId) : Option (TypeId × Nat) :=
  match P.underlying t with
  | some (.slice e) => (P.info? e).map fun i => (e, i.size)
  | _ => none

theorem elemInfo_run {P : Program} {t e : TypeId} {n : Nat} (h : elemInfo P t = some (e, n)) : P.underlying t = some (.slice e) ∧ ∀ w, (sizeOf e).run P w = .ok n w := by
  unfold elemInfo at h
  cases hu : P.underlying t with
  | none => simp [hu] at h
  | some d =>
    cases d with
    | slice e' =>
      simp only [hu] at h
      cases hi : P.info? e' with
      | none => simp [hi] at h
      | some i =>
        simp only [hi, Option.map_some] at h
        cases h
        exact ⟨rfl, fun w => by simp [sizeOf, typeInfo, hi]⟩
    | _ => simp [hu] at h

def aIndexAddr (P : Program) (t : TypeId) (x i : AV) (h : AH) : Option AV :=
  match elemInfo P t with
  | some (_, n) =>
    match i with
    | .v (.int _ j) =>
      match x with
      | .sl s xs _ => if s = n ∧ 0 ≤ j ∧ j < xs.length then some (.pin s xs j.toNat 0) else none
      | .arr id lo len => match h[id]? with
        | some (.cells _ s _) => if s = n ∧ 0 ≤ j ∧ j < len then some (.ptr id (lo + j.toNat) 0) else none
        | _ => none
      | _ => none
    | _ => none
  | none => none

theorem indexAddr_sound {P : Program} {c : Cx} {t : TypeId} {x i r : AV} {u ui : Value} (ha : aIndexAddr P t x i c.h = some r) (hx : Rel c x u) (hi : Rel c i ui) :
    ∃ y, (Instr.indexAt t u ui).run P c.w = .ok y c.w ∧ Rel c r y := by
  unfold aIndexAddr at ha
  cases he : elemInfo P t with
  | none => simp [he] at ha
  | some en =>
    obtain ⟨e, n⟩ := en
    obtain ⟨hu, hsz⟩ := elemInfo_run he
    simp only [he] at ha
    cases hi with
    | v ui =>
      cases ui with
      | int q j =>
        simp only at ha
        have run : ∀ (B o len cap : Nat), 0 ≤ j → j < len → (Instr.indexAt t (.slice (some ⟨B, o, none⟩) len cap) (.int q j)).run P c.w = .ok (.pointer (some ⟨B, o + j.toNat * n, none⟩)) c.w := by
          intro B o len cap h1 h2
          simp [Instr.indexAt, asIntOf, underlying, hu, h1, h2, hsz, addr_add]
        cases hx with
        | sl s xs own B o cap f hs hcap hmax hc hr ht =>
          simp only at ha
          split at ha
          · rename_i hh
            obtain ⟨rfl, h1, h2⟩ := hh
            cases ha
            refine ⟨_, run B o _ cap h1 h2, ?_⟩
            have := Rel.pin (c := c) s xs j.toNat 0 B o f hs hc hr
            rwa [Nat.add_zero] at this
          · cases ha
        | slnil s own ht =>
          simp only at ha
          split at ha
          · rename_i hh; simp at hh; omega
          · cases ha
        | slzero s own ba ht =>
          simp only at ha
          split at ha
          · rename_i hh; simp at hh; omega
          · cases ha
        | arr id lo len x hid ho h1 =>
          simp only at ha
          split at ha
          · rename_i ty s xs hb
            split at ha
            · rename_i hh
              obtain ⟨rfl, h3, h4⟩ := hh
              cases ha
              obtain ⟨B, cap, hρ, rfl, _⟩ := h1 _ _ _ hb
              refine ⟨_, run B _ len cap h3 h4, .ptr id _ 0 _ hid rfl ?_⟩
              intro ty' s' xs' hb'
              rw [hb] at hb'; cases hb'
              exact ⟨B, hρ, by rw [Nat.add_mul]; simp⟩
            · cases ha
          · cases ha
        | _ => simp at ha
      | _ => simp at ha
    | _ => simp at ha

/-! ### reading -/

def aLoad (P : Program) (t : TypeId) (x : AV) (h : AH) : Option AV :=
  match x with
  | .ptr id k off => match h[id]? with
    | some (.cells _ _ xs) => match xs[k]? with
      | some y => aPart P t y off
      | none => none
    | _ => none
  | .pin _ xs k off => match xs[k]? with
    | some y => aPart P t y off
    | none => none
  | _ => none

theorem aLoad_sound {P : Program} {c : Cx} (hst : St c) {t : TypeId} {x r : AV} {u : Value} (ha : aLoad P t x c.h = some r) (hx : Rel c x u) :
    ∃ y, (Instr.loadAt t u).run P c.w = .ok y c.w ∧ Rel c r y := by
  unfold aLoad at ha
  cases hx with
  | ptr id k off x hid ho h1 =>
    simp only at ha
    split at ha
    · rename_i ty s xs hb
      split at ha
      · rename_i y hk
        obtain ⟨B, hρ, rfl⟩ := h1 _ _ _ hb
        obtain ⟨B', cur, h2, h3, h4, h5⟩ := hst.blocks id _ hb
        rw [hρ] at h2; cases h2
        have := load_sound (o := 0) (Row.of_block h3 h5) h4 hk ha
        simpa using this
      · cases ha
    · cases ha
  | pin s xs k off B o f hs hc hr =>
    simp only at ha
    split at ha
    · rename_i y hk
      exact load_sound (fun j a hj => ⟨f j, (hc j a hj).1.1, (hc j a hj).2, hr j a hj⟩) hs hk ha
    · cases ha
  | _ => simp at ha

/-! ### writing -/

/-- an element with cells written at an offset -/
def aSetPart (x : AV) (off : Nat) (v : AV) : Option AV :=
  if off = 0 ∧ v.cells.length = x.cells.length ∧ v.isAgg = x.isAgg then some v
  else if x.isAgg = true ∧ off + v.cells.length ≤ x.cells.length then some (.agg (x.cells.take off ++ v.cells ++ x.cells.drop (off + v.cells.length)))
  else none

theorem aSetPart_cells {x v x' : AV} {off : Nat} (h : aSetPart x off v = some x') : off + v.cells.length ≤ x.cells.length ∧ x'.cells = x.cells.take off ++ v.cells ++ x.cells.drop (off + v.cells.length) := by
  unfold aSetPart at h
  split at h
  · rename_i hh
    obtain ⟨rfl, h2, h3⟩ := hh
    cases h
    refine ⟨by omega, ?_⟩
    rw [Nat.zero_add, h2]
    simp
  · split at h
    · rename_i hh; cases h; exact ⟨hh.2, rfl⟩
    · cases h

def aStore (P : Program) (t : TypeId) (x v : AV) (h : AH) : Option AH :=
  match tyInfo P t with
  | some (_, n) =>
    match x with
    | .ptr id k off => match h[id]? with
      | some (.cells ty s xs) => match xs[k]? with
        | some y => if v.cells1 = true ∧ v.cells.length = n then match aSetPart y off v with
            | some y' => some (h.set id (.cells ty s (xs.set k y')))
            | none => none
          else none
        | none => none
      | _ => none
    | _ => none
  | none => none

theorem heap_setRow (w : World) (g : Nat) (cs : Array Value) (k : Nat) (h : k ≠ g) : (w.setRow g cs).heap[k]? = w.heap[k]? := by
  exact setRow_other w g k _ h

theorem aStore_sound {P : Program} {c : Cx} (hst : St c) {t : TypeId} {x v : AV} {h' : AH} {u uv : Value} (ha : aStore P t x v c.h = some h') (hx : Rel c x u) (hv : Rel c v uv) :
    ∃ c', (Instr.storeAt t u uv).run P c.w = .ok () c'.w ∧ Ev c c' ∧ St c' ∧ c'.h = h' := by
  unfold aStore at ha
  cases hti : tyInfo P t with
  | none => simp [hti] at ha
  | some bn =>
    obtain ⟨bb, n⟩ := bn
    obtain ⟨_, hsize⟩ := tyInfo_run hti c.w
    simp only [hti] at ha
    cases hx with
    | ptr id k off x hid ho h1 =>
      simp only at ha
      split at ha
      · rename_i ty s xs hb
        split at ha
        · rename_i y hk
          split at ha
          · rename_i hc1
            obtain ⟨hv1, hvn⟩ := hc1
            split at ha
            · rename_i y' hy'
              cases ha
              obtain ⟨hle, hcells⟩ := aSetPart_cells hy'
              obtain ⟨B, hρ, rfl⟩ := h1 _ _ _ hb
              obtain ⟨B', cur, h2, h3, h4, h5⟩ := hst.blocks id _ hb
              rw [hρ] at h2; cases h2
              obtain ⟨hrl, hone⟩ := rel_cells hv hv1
              have hyl : y.cells.length = s := h4 y (List.mem_of_getElem? hk)
              have hkl := lt_of_get hk
              have hy'l : y'.cells.length = s := by rw [hcells]; simp; omega
              have hfl : (flat xs).length = xs.length * s := flat_length h4
              have hks : k * s + s ≤ xs.length * s := by rw [← Nat.succ_mul]; exact Nat.mul_le_mul_right s hkl
              have hcur : (flat xs).length ≤ cur.size := by
                rcases Nat.eq_zero_or_pos (flat xs).length with h0 | h0
                · omega
                · obtain ⟨a, ha⟩ : ∃ a, (flat xs)[(flat xs).length - 1]? = some a := ⟨_, List.getElem?_eq_getElem (by omega)⟩
                  obtain ⟨u, hu, _⟩ := h5 _ a ha
                  have := (Array.getElem?_eq_some_iff.1 hu).1
                  omega
              have hun : uv.cells.toList.length = n := by rw [Array.length_toList, hrl.1, hvn]
              have hrun := run_storeCells_at P B (k * s + off) ty uv.cells.toList 0 cur c.w h3 (by rw [hun]; omega) hone
              rw [Nat.add_zero] at hrun
              let cur' := (cur.toList.take (k * s + off) ++ uv.cells.toList ++ cur.toList.drop (k * s + off + uv.cells.toList.length)).toArray
              have hheap : (c.w.setRow B cur').heap[B]? = some (.cells cur' ty (0, 0)) := setRow_heap c.w B cur cur' ty (0, 0) h3
              have hev : Ev c (c.turn (c.w.setRow B cur') id (.cells ty s (xs.set k y'))) :=
                Ev.turn hst hb rfl hρ rfl rfl rfl (by simp [World.setRow]) (fun k' hk' => heap_setRow c.w B cur' k' hk') ⟨_, rfl, rfl⟩
              refine ⟨c.turn (c.w.setRow B cur') id (.cells ty s (xs.set k y')), ?_, hev, ?_, rfl⟩
              · have : ¬ uv.cells.size ≠ n := by have := hrl.1; omega
                simp only [Instr.storeAt, Instr.sureAddr, storeVar, Sem.run_bind, Sem.run_pure, Result.andThen_ok, hsize, this, if_false, hrun]
                rfl
              · refine St.turn hst hb rfl hρ (fun k' hk' => heap_setRow c.w B cur' k' hk') hev ?_
                refine ⟨B, cur', hρ, hheap, ?_, ?_⟩
                · intro z hz
                  rcases List.mem_or_eq_of_mem_set hz with hz | hz
                  · exact h4 z hz
                  · subst hz; exact hy'l
                · intro j a hj
                  rw [flat_set_get hy'l j h4 hkl] at hj
                  have hcl : ∀ i : Nat, cur'[i]? = (cur.toList.take (k * s + off) ++ uv.cells.toList ++ cur.toList.drop (k * s + off + uv.cells.toList.length))[i]? := by intro i; simp [cur']
                  have htl : (cur.toList.take (k * s + off)).length = k * s + off := by simp; omega
                  -- the old cell at a place that was not written
                  have oldcell : ∀ i : Nat, (i < k * s + off ∨ k * s + off + n ≤ i) → cur'[i]? = cur[i]? := by
                    intro i hi
                    rw [hcl i]
                    rcases hi with hi | hi
                    · rw [List.append_assoc, List.getElem?_append_left (by omega), List.getElem?_take_of_lt hi]; simp
                    · rw [List.getElem?_append_right (by rw [List.length_append, htl, hun]; omega), List.length_append, htl, hun, List.getElem?_drop]
                      rw [show k * s + off + n + (i - (k * s + off + n)) = i by omega]; simp
                  split at hj
                  · rename_i hin
                    rw [hcells] at hj
                    by_cases c1 : j - k * s < off
                    · rw [List.append_assoc, List.getElem?_append_left (by simp; omega), List.getElem?_take_of_lt c1] at hj
                      obtain ⟨u, h6, h7, h8⟩ := h5 j a (by have := flat_get h4 hk hj; rwa [show k * s + (j - k * s) = j by omega] at this)
                      exact ⟨u, by rw [oldcell j (.inl (by omega))]; exact h6, h7, h8.ev hst hev⟩
                    · by_cases c2 : j - k * s < off + n
                      · rw [List.append_assoc, List.getElem?_append_right (by simp; omega), List.length_take, show min off y.cells.length = off by omega, List.getElem?_append_left (by omega)] at hj
                        have hlt := lt_of_get hj
                        obtain ⟨u, hu⟩ : ∃ u, uv.cells[j - k * s - off]? = some u := ⟨_, Array.getElem?_eq_getElem (by have := hrl.1; omega)⟩
                        refine ⟨u, ?_, hone u (by rw [Array.mem_toList_iff]; exact Array.mem_of_getElem? hu), (hrl.2 _ a u hj hu).ev hst hev⟩
                        rw [hcl j, List.append_assoc, List.getElem?_append_right (by omega), htl, List.getElem?_append_left (by omega)]
                        rw [show j - (k * s + off) = j - k * s - off by omega]
                        simpa using hu
                      · rw [List.getElem?_append_right (by simp; omega), List.length_append, List.length_take, show min off y.cells.length = off by omega, hvn, List.getElem?_drop] at hj
                        rw [show off + n + (j - k * s - (off + n)) = j - k * s by omega] at hj
                        obtain ⟨u, h6, h7, h8⟩ := h5 j a (by have := flat_get h4 hk hj; rwa [show k * s + (j - k * s) = j by omega] at this)
                        exact ⟨u, by rw [oldcell j (.inr (by omega))]; exact h6, h7, h8.ev hst hev⟩
                  · rename_i hout
                    obtain ⟨u, h6, h7, h8⟩ := h5 j a hj
                    exact ⟨u, by rw [oldcell j (by omega)]; exact h6, h7, h8.ev hst hev⟩
            · cases ha
          · cases ha
        · cases ha
      · cases ha
    | _ => simp at ha

/-! ### new variables -/

theorem box_sound {P : Program} {c : Cx} (hst : St c) {ty : TypeId} {x : AV} {u : Value} (hx : Rel c x u) (h1 : x.cells1 = true) :
    ∃ c', (Instr.box ty u).run P c.w = .ok (.pointer (some ⟨c.w.heap.size, 0, none⟩)) c'.w ∧ Ev c c' ∧ St c' ∧ c'.h = c.h ++ [.cells ty x.cells.length [x]] ∧ Rel c' (.ptr c.h.length 0 0) (.pointer (some ⟨c.w.heap.size, 0, none⟩)) := by
  obtain ⟨hrl, hone⟩ := rel_cells hx h1
  let b : AB := .cells ty x.cells.length [x]
  let w' := c.w.alloc (.cells u.cells ty)
  have hg : Grows c.w w' := Grows.alloc _ _
  have ho : ∀ B, some c.w.heap.size = some B → c.w.heap.size ≤ B := fun B h => by cases h; exact Nat.le_refl _
  have hev : Ev c (c.add w' b (some c.w.heap.size)) := Ev.add hst hg b _ ho
  have hρ : (c.add w' b (some c.w.heap.size)).ρ c.h.length = some c.w.heap.size := by simp [Cx.add]
  refine ⟨c.add w' b (some c.w.heap.size), rfl, hev, ?_, rfl, ?_⟩
  · refine St.add hst hg b _ ho ⟨c.w.heap.size, u.cells, hρ, heap_alloc_top _ _, by simp, ?_⟩
    intro j a hj
    simp only [flat, List.flatMap_cons, List.flatMap_nil, List.append_nil] at hj
    obtain ⟨y, hy⟩ : ∃ y, u.cells[j]? = some y := ⟨_, Array.getElem?_eq_getElem (by have := hrl.1; have := lt_of_get hj; omega)⟩
    exact ⟨y, hy, hone y (by rw [Array.mem_toList_iff]; exact Array.mem_of_getElem? hy), (hrl.2 j a y hj hy).ev hst hev⟩
  · refine .ptr _ _ _ _ (by simp [Cx.add]) rfl ?_
    intro ty' s' xs' _
    exact ⟨_, hρ, by simp⟩

def zeroAV (P : Program) (t : TypeId) : Option AV := ((P.info? t).bind (·.zero)).map AV.ofV

theorem zeroAV_run {P : Program} {t : TypeId} {z : AV} (h : zeroAV P t = some z) : ∃ v, (∀ w, (zeroValue t).run P w = .ok v w) ∧ z = AV.ofV v := by
  unfold zeroAV at h
  cases hi : P.info? t with
  | none => simp [hi] at h
  | some i =>
    cases hz : i.zero with
    | none => simp [hi, hz] at h
    | some v => simp [hi, hz] at h; exact ⟨v, fun w => by simp [zeroValue, typeInfo, hi, hz], h.symm⟩

end Go.Proofs.Ytplnbmldkgcedaa.Ab
