/-
  The abstract program logic: values of several cells, slices that grow, maps.
-/
import Derived.Test.YtplnbmldkgcedaaAbD
set_option linter.unusedVariables false
set_option maxHeartbeats 4000000
namespace Go.Proofs.Ytplnbmldkgcedaa.Ab

theorem alloc_sound {P : Program} {c : Cx} (hst : St c) {ty : TypeId} {z : AV} (hz : zeroAV P ty = some z) (h1 : z.cells1 = true) :
    ∃ c', (Instr.alloc ty true (.tuple #[])).run P c.w = .ok (.pointer (some ⟨c.w.heap.size, 0, none⟩)) c'.w ∧ Ev c c' ∧ St c' ∧ c'.h = c.h ++ [.cells ty z.cells.length [z]] ∧ Rel c' (.ptr c.h.length 0 0) (.pointer (some ⟨c.w.heap.size, 0, none⟩)) := by
  obtain ⟨v, hv, rfl⟩ := zeroAV_run hz
  obtain ⟨c', h2, h3⟩ := box_sound (P := P) (ty := ty) hst (rel_ofV c v) h1
  refine ⟨c', ?_, h3⟩
  simp only [Instr.alloc, Sem.run_bind, hv, Result.andThen_ok]
  exact h2

/-! ### building -/

def aFill (place : Nat → Option (Nat × Nat)) (cells : List AV) : List (Nat × AV) → Option (List AV)
  | [] => some cells
  | (i, v) :: rest =>
    match place i with
    | none => none
    | some (off, size) => if v.cells1 = true ∧ v.cells.length = size ∧ off + v.cells.length ≤ cells.length then aFill place (cells.take off ++ v.cells ++ cells.drop (off + v.cells.length)) rest else none

theorem fold_set (off : Nat) : ∀ (vs : List Value) (i : Nat) (cs : Array Value), off + i + vs.length ≤ cs.size →
    ((vs.zipIdx i).foldl (fun cs (x : Value × Nat) => cs.setIfInBounds (off + x.2) x.1) cs).toList = cs.toList.take (off + i) ++ vs ++ cs.toList.drop (off + i + vs.length)
  | [], i, cs, h => by simp
  | v :: vs, i, cs, h => by
    simp only [List.length_cons] at h
    rw [List.zipIdx_cons, List.foldl_cons, fold_set off vs (i + 1) _ (by simp; omega)]
    have e := list_seg_step cs.toList (off + i) v vs (by simp; omega)
    simp only [Array.toList_setIfInBounds]
    rw [show off + (i + 1) = off + i + 1 by omega]
    rw [e]
    simp [Nat.add_assoc]

theorem relL_cells_put {c : Cx} {cells v : List AV} {cs u : Array Value} {off : Nat} (h : RelL c cells cs) (k : RelL c v u) (hle : off + v.length ≤ cells.length) :
    RelL c (cells.take off ++ v ++ cells.drop (off + v.length)) (cs.toList.take off ++ u.toList ++ cs.toList.drop (off + u.toList.length)).toArray := by
  have h1 := h.1
  have k1 := k.1
  refine ⟨by simp; omega, ?_⟩
  intro j a x ha hx
  have hx' : (cs.toList.take off ++ u.toList ++ cs.toList.drop (off + u.toList.length))[j]? = some x := by simpa using hx
  have hul : u.toList.length = v.length := by simp [k1]
  by_cases c1 : j < off
  · rw [List.append_assoc, List.getElem?_append_left (by simp; omega), List.getElem?_take_of_lt c1] at ha hx'
    exact h.2 j a x ha (by simpa using hx')
  · by_cases c2 : j < off + v.length
    · rw [List.append_assoc, List.getElem?_append_right (by simp; omega), List.getElem?_append_left (by simp; omega)] at ha hx'
      simp only [List.length_take, Array.length_toList] at ha hx'
      rw [show min off cells.length = off by omega] at ha
      rw [show min off cs.size = off by omega] at hx'
      exact k.2 _ a x ha (by simpa using hx')
    · rw [List.getElem?_append_right (by simp; omega), List.getElem?_drop] at ha hx'
      simp only [List.length_append, List.length_take, Array.length_toList] at ha hx'
      rw [show off + v.length + (j - (min off cells.length + v.length)) = j by omega] at ha
      rw [show off + u.size + (j - (min off cs.size + u.size)) = j by omega] at hx'
      exact h.2 j a x ha (by simpa using hx')

theorem aFill_sound {c : Cx} {place : Nat → Option (Nat × Nat)} : ∀ {parts : List (Nat × AV)} {vals : List (Nat × Value)} {cells r : List AV} {cs : Array Value},
    parts.map (·.1) = vals.map (·.1) → RelL c (parts.map (·.2)) (vals.map (·.2)).toArray → aFill place cells parts = some r → RelL c cells cs → (∀ x ∈ cs.toList, x.oneCell' = true) →
    ∃ cs', Instr.fill place cs vals = some cs' ∧ RelL c r cs' ∧ r.length = cells.length ∧ ∀ x ∈ cs'.toList, x.oneCell' = true
  | [], [], cells, r, cs, _, _, h, hr, ho => by
    simp only [aFill, Option.some.injEq] at h
    subst h
    exact ⟨cs, rfl, hr, rfl, ho⟩
  | [], _ :: _, _, _, _, h, _, _, _, _ => by simp at h
  | _ :: _, [], _, _, _, h, _, _, _, _ => by simp at h
  | (i, v) :: parts, (i', u) :: vals, cells, r, cs, hi, hv, h, hr, ho => by
    simp only [List.map_cons, List.cons.injEq] at hi
    obtain ⟨rfl, hi⟩ := hi
    have hu : Rel c v u := hv.2 0 v u (by simp) (by simp)
    have hrest : RelL c (parts.map (·.2)) (vals.map (·.2)).toArray := by
      refine ⟨by have := hv.1; simpa using this, fun j a x ha hx => hv.2 (j + 1) a x (by simpa using ha) (by simpa using hx)⟩
    simp only [aFill] at h
    cases hp : place i with
    | none => simp [hp] at h
    | some os =>
      obtain ⟨off, size⟩ := os
      simp only [hp] at h
      split at h
      · rename_i hh
        obtain ⟨h1, h2, h3⟩ := hh
        obtain ⟨hrl, hone⟩ := rel_cells hu h1
        have hsz := hrl.1
        have hcs := hr.1
        have e := fold_set off u.cells.toList 0 cs (by simp; omega)
        have e' : u.cells.zipIdx.foldl (fun cs (x : Value × Nat) => cs.setIfInBounds (off + x.2) x.1) cs = (cs.toList.take off ++ u.cells.toList ++ cs.toList.drop (off + u.cells.toList.length)).toArray := by
          apply Array.ext'
          rw [← Array.foldl_toList, Array.toList_zipIdx, e]
          simp
        have hput := relL_cells_put hr hrl h3
        obtain ⟨cs', h4, h5, h6, h7⟩ := aFill_sound hi hrest h hput (by
          intro x hx
          simp only [List.mem_append] at hx
          rcases hx with (hx | hx) | hx
          · exact ho x (List.mem_of_mem_take hx)
          · exact hone x hx
          · exact ho x (List.mem_of_mem_drop hx))
        refine ⟨cs', ?_, h5, ?_, h7⟩
        · simp only [Instr.fill, hp]
          rw [if_neg (by simp; omega)]
          rw [e']
          exact h4
        · rw [h6]; simp; omega
      · cases h

/-- the places of a struct's fields -/
def placesOf (P : Program) (fs : List Field) : Option (List (Nat × Nat)) :=
  fs.mapM fun f => (tyInfo P f.type).map fun bn => (f.offset, bn.2)
def structPlaces (P : Program) (t : TypeId) : Option (List (Nat × Nat)) :=
  match P.underlying t with
  | some (.struct fs) => placesOf P fs.toList
  | _ => none

theorem placesOf_run {P : Program} : ∀ {fs : List Field} {l : List (Nat × Nat)}, placesOf P fs = some l → ∀ w, (fs.mapM (m := Sem) fun (f : Field) => do pure (f.offset, ← sizeOf f.type)).run P w = .ok l w
  | [], l, h, w => by simp [placesOf] at h; subst h; rfl
  | f :: fs, l, h, w => by
    simp only [placesOf, List.mapM_cons] at h
    cases ht : tyInfo P f.type with
    | none => simp [ht] at h
    | some bn =>
      obtain ⟨b, n⟩ := bn
      cases hr : placesOf P fs with
      | none => rw [placesOf] at hr; simp [ht, hr] at h
      | some l' =>
        have ih := placesOf_run hr w
        rw [placesOf] at hr
        simp [ht, hr] at h
        subst h
        obtain ⟨_, h2⟩ := tyInfo_run ht w
        simp only [List.mapM_cons, Sem.run_bind, h2, Result.andThen_ok, Sem.run_pure, ih]

def aBuild (P : Program) (t : TypeId) (parts : List (Nat × AV)) : Option AV :=
  match structPlaces P t, zeroAV P t with
  | some l, some z => if z.cells1 = true ∧ z.isAgg = true then (aFill (fun i => l[i]?) z.cells parts).map .agg else none
  | _, _ => none

theorem build_sound {P : Program} {c : Cx} {t : TypeId} {parts : List (Nat × AV)} {vals : Array (Nat × Value)} {r : AV} (ha : aBuild P t parts = some r)
    (hi : parts.map (·.1) = vals.toList.map (·.1)) (hv : RelL c (parts.map (·.2)) (vals.toList.map (·.2)).toArray) :
    ∃ y, (Instr.build t vals).run P c.w = .ok y c.w ∧ Rel c r y := by
  unfold aBuild at ha
  cases hl : structPlaces P t with
  | none => simp [hl] at ha
  | some l =>
    cases hz : zeroAV P t with
    | none => simp [hl, hz] at ha
    | some z =>
      simp only [hl, hz] at ha
      split at ha
      · rename_i hh
        obtain ⟨v, hrun, rfl⟩ := zeroAV_run hz
        obtain ⟨hrl, hone⟩ := rel_cells (rel_ofV c v) hh.1
        cases hf : aFill (fun i => l[i]?) (AV.ofV v).cells parts with
        | none => simp [hf] at ha
        | some rs =>
          simp [hf] at ha
          subst ha
          obtain ⟨cs', h4, h5, _, _⟩ := aFill_sound hi hv hf hrl hone
          unfold structPlaces at hl
          cases hu : P.underlying t with
          | none => simp [hu] at hl
          | some d =>
            cases d with
            | struct fs =>
              simp only [hu] at hl
              have hm := placesOf_run hl c.w
              have hm' : (fs.mapM (m := Sem) fun (f : Field) => do pure (f.offset, ← sizeOf f.type)).run P c.w = .ok l.toArray c.w := by
                rw [Array.mapM_eq_mapM_toList]
                rw [Sem.run_map, hm]
                rfl
              refine ⟨.agg cs', ?_, .agg rs cs' h5.1 h5.2⟩
              have h4' : Instr.fill (fun x => l.toArray[x]?) v.cells vals.toList = some cs' := by
                rw [← h4]; congr 1; funext i; simp
              simp only [Instr.build, Sem.run_bind, hrun, Result.andThen_ok, underlying, run_program, hu, Sem.run_pure, hm', h4']
            | _ => simp [hu] at hl
      · cases ha

end Go.Proofs.Ytplnbmldkgcedaa.Ab
