/-
  The abstract program logic: slices: literals, append, len, parts.
-/
import Derived.Test.YtplnbmldkgcedaaAbE
set_option linter.unusedVariables false
set_option maxHeartbeats 4000000
namespace Go.Proofs.Ytplnbmldkgcedaa.Ab

theorem prot_new {c : Cx} (hs : St c) {w : World} (h : Grows c.w w) {B : Nat} (h1 : c.w.heap.size ≤ B) (h2 : B < w.heap.size) (o : Nat) : (c.to w).prot B o := by
  refine ⟨h2, fun id b hb hl hρ => ?_⟩
  have := hs.lt (c := c) hb hl hρ
  omega

/-- a new block that holds these elements, for good -/
theorem rel_sl_new {c : Cx} (hs : St c) {cells : Array Value} {e : TypeId} {s : Nat} {xs : List AV} (hxs : ∀ x ∈ xs, x.cells.length = s) (hmax : xs.length ≤ maxLen)
    (hr : RelL c (flat xs) cells) (ho : ∀ x ∈ cells.toList, x.oneCell' = true) :
    Ev c (c.to (c.w.alloc (.cells cells e))) ∧ St (c.to (c.w.alloc (.cells cells e))) ∧ Rel (c.to (c.w.alloc (.cells cells e))) (.sl s xs none) (.slice (some ⟨c.w.heap.size, 0, none⟩) xs.length xs.length) := by
  have hg := Grows.alloc c.w (.cells cells e)
  have hev := Ev.grows hs hg
  refine ⟨hev, hs.grows hg, ?_⟩
  have hcell : ∀ j : Nat, (c.w.alloc (.cells cells e)).cell? ⟨c.w.heap.size, 0 + j, none⟩ = cells[j]? := by
    intro j; rw [cell_cells (heap_alloc_top _ _), Nat.zero_add]
  have hget : ∀ (j : Nat) a, (flat xs)[j]? = some a → cells[j]? = some (cells.getD j undef) := by
    intro j a ha
    have : j < cells.size := by rw [hr.1]; exact lt_of_get ha
    simp [Array.getD, this]
  refine .sl s xs none c.w.heap.size 0 xs.length (fun j => cells.getD j undef) hxs (Nat.le_refl _) hmax ?_ ?_ (fun b hb => by cases hb)
  · intro j a ha
    refine ⟨⟨by simp only [Cx.to]; rw [hcell]; exact hget j a ha, prot_new hs hg (Nat.le_refl _) (by simp) _⟩, ?_⟩
    exact ho _ (by rw [Array.mem_toList_iff]; exact Array.mem_of_getElem? (hget j a ha))
  · intro j a ha
    exact (hr.2 j a _ ha (hget j a ha)).ev hs hev

theorem aFill_row {n : Nat} : ∀ (elems : List AV) (k : Nat) (cells : List AV), (∀ x ∈ elems, x.cells1 = true ∧ x.cells.length = n) → k * n + elems.length * n ≤ cells.length →
    aFill (fun i => some (i * n, n)) cells ((List.range' k elems.length).zip elems) = some (cells.take (k * n) ++ flat elems ++ cells.drop (k * n + elems.length * n))
  | [], k, cells, _, _ => by simp [aFill, flat]
  | x :: elems, k, cells, h, hl => by
    have h0 := h x (by simp)
    simp only [List.length_cons, Nat.add_mul, Nat.one_mul] at hl
    rw [List.length_cons, List.range'_succ, List.zip_cons_cons]
    simp only [aFill]
    rw [if_pos ⟨h0.1, h0.2, by rw [h0.2]; omega⟩]
    rw [aFill_row elems (k + 1) _ (fun y hy => h y (by simp [hy])) (by simp [h0.2, Nat.add_mul]; omega)]
    congr 1
    have e1 : (k + 1) * n = k * n + n := by rw [Nat.add_mul]; omega
    have e2 : (elems.length + 1) * n = elems.length * n + n := by rw [Nat.add_mul]; omega
    have htl : (cells.take (k * n)).length = k * n := by simp; omega
    rw [e1, e2, h0.2, flat_cons]
    have a1 : (cells.take (k * n) ++ x.cells ++ cells.drop (k * n + n)).take (k * n + n) = cells.take (k * n) ++ x.cells := by
      rw [List.take_left' (by rw [List.length_append, htl, h0.2])]
    have a2 : (cells.take (k * n) ++ x.cells ++ cells.drop (k * n + n)).drop (k * n + n + elems.length * n) = cells.drop (k * n + (elems.length * n + n)) := by
      rw [List.drop_append, List.length_append, htl, h0.2]
      rw [List.drop_eq_nil_of_le (by rw [List.length_append, htl, h0.2]; omega), List.nil_append, List.drop_drop]
      congr 1; omega
    rw [a1, a2]
    simp [List.append_assoc]

def aBuildSlice (P : Program) (t : TypeId) (len : Nat) (parts : List (Nat × AV)) (h : AH) : Option (AV × AH) :=
  match elemInfo P t with
  | some (e, n) =>
    if parts.map (·.1) = List.range len ∧ (parts.all fun p => p.2.cells1 && p.2.cells.length == n) = true ∧ len * n ≤ 2 ^ 24 ∧ 0 < n ∧ (zeroAV P e).any (fun z => z.cells1 && z.cells.length == n) = true then
      if len = 0 then some (.sl n [] (some h.length), h ++ [.grow e n 0]) else some (.sl n (parts.map (·.2)) none, h)
    else none
  | none => none

theorem zip_map_fst_snd (l : List (Nat × AV)) : (l.map (·.1)).zip (l.map (·.2)) = l := by
  induction l with
  | nil => rfl
  | cons x l ih => simp only [List.map_cons, List.zip_cons_cons, ih]

theorem buildSlice_sound {P : Program} {c : Cx} (hst : St c) {t : TypeId} {len : Nat} {parts : List (Nat × AV)} {vals : Array (Nat × Value)} {r : AV} {h' : AH} (ha : aBuildSlice P t len parts c.h = some (r, h'))
    (hi : parts.map (·.1) = vals.toList.map (·.1)) (hv : RelL c (parts.map (·.2)) (vals.toList.map (·.2)).toArray) :
    ∃ y c', (Instr.buildSlice t len vals).run P c.w = .ok y c'.w ∧ Ev c c' ∧ St c' ∧ c'.h = h' ∧ Rel c' r y := by
  unfold aBuildSlice at ha
  cases he : elemInfo P t with
  | none => simp [he] at ha
  | some en =>
    obtain ⟨e, n⟩ := en
    obtain ⟨hu, hsz⟩ := elemInfo_run he
    simp only [he] at ha
    split at ha
    · rename_i hh
      obtain ⟨h1, h2, h3, h4, h5⟩ := hh
      cases hz : zeroAV P e with
      | none => simp [hz] at h5
      | some z =>
        obtain ⟨v, hrun, rfl⟩ := zeroAV_run hz
        simp only [hz, Option.any_some, Bool.and_eq_true, beq_iff_eq] at h5
        obtain ⟨hrl0, hone0⟩ := rel_cells (rel_ofV c v) h5.1
        have hvn : v.cells.size = n := by rw [hrl0.1]; exact h5.2
        have hlen : parts.length = len := by have := congrArg List.length h1; simpa using this
        have hall : ∀ x ∈ parts.map (·.2), x.cells1 = true ∧ x.cells.length = n := by
          intro x hx
          simp only [List.mem_map] at hx
          obtain ⟨p, hp, rfl⟩ := hx
          simp only [List.all_eq_true, Bool.and_eq_true, beq_iff_eq] at h2
          exact h2 p hp
        -- the zero cells
        let zs : Array Value := (Array.range (len * n)).map (v.cells[· % v.cells.size]!)
        have hzs : zs.size = len * n := by simp [zs]
        have hzone : ∀ x ∈ zs.toList, x.oneCell' = true := by
          intro x hx
          simp only [zs, Array.mem_toList_iff, Array.mem_map] at hx
          obtain ⟨i, _, rfl⟩ := hx
          have hlt : i % v.cells.size < v.cells.size := Nat.mod_lt _ (by omega)
          rw [getElem!_pos v.cells _ hlt]
          exact hone0 _ (by rw [Array.mem_toList_iff]; exact Array.getElem_mem hlt)
        have hjunk : RelL c (List.replicate (len * n) AV.junk) zs := by
          refine ⟨by simp [hzs], fun j a u ha hu => ?_⟩
          rw [List.getElem?_replicate] at ha
          split at ha
          · cases ha; exact .junk u
          · cases ha
        have hfill : aFill (fun i => some (i * n, n)) (List.replicate (len * n) AV.junk) parts = some (flat (parts.map (·.2))) := by
          have := aFill_row (n := n) (parts.map (·.2)) 0 (List.replicate (len * n) AV.junk) hall (by simp [hlen])
          have e : (List.range' 0 (parts.map (·.2)).length).zip (parts.map (·.2)) = parts := by
            rw [List.length_map, hlen, ← List.range_eq_range', ← h1]
            exact zip_map_fst_snd parts
          rw [e] at this
          rw [this]
          simp [hlen]
        obtain ⟨cs', hf, hrl, _, hone⟩ := aFill_sound hi hv hfill hjunk hzone
        have hfl : (flat (parts.map (·.2))).length = len * n := by
          rw [flat_length (fun x hx => (hall x hx).2)]; simp [hlen]
        have hrun' : (Instr.buildSlice t len vals).run P c.w = .ok (.slice (some ⟨c.w.heap.size, 0, none⟩) len len) (c.w.alloc (.cells cs' e)) := by
          have h3' : ¬ len * n > 2 ^ 24 := by omega
          simp only [Instr.buildSlice, Sem.run_bind, underlying, run_program, Result.andThen_ok, hu, Sem.run_pure, hsz, h3', if_false]
          by_cases h0 : len * n = 0
          · have hz0 : zs = (Array.range (len * n)).map ((#[] : Array Value)[· % (#[] : Array Value).size]!) := by
              apply Array.ext
              · simp [hzs]
              · intro i h1 h2; simp [hzs, h0] at h1
            rw [if_pos h0]
            simp only [Sem.run_bind, Sem.run_pure, Result.andThen_ok]
            rw [← hz0, hf]
            rfl
          · rw [if_neg h0]
            simp only [Sem.run_bind, hrun, Result.andThen_ok, Sem.run_pure]
            rw [hf]
            rfl
        have hmaxl : len ≤ maxLen := by
          have : len * 1 ≤ len * n := Nat.mul_le_mul_left _ h4
          have h24 : (2 : Nat) ^ 24 = 16777216 := by decide
          simp only [maxLen]; omega
        split at ha
        · rename_i h0
          cases ha
          subst h0
          have hg := Grows.alloc c.w (.cells cs' e)
          have ho : ∀ B, some c.w.heap.size = some B → c.w.heap.size ≤ B := fun B h => by cases h; exact Nat.le_refl _
          have hev := Ev.add hst hg (.grow e n 0) (some c.w.heap.size) ho
          have hρ : (c.add (c.w.alloc (.cells cs' e)) (.grow e n 0) (some c.w.heap.size)).ρ c.h.length = some c.w.heap.size := by simp [Cx.add]
          have hcs : cs'.size = 0 := by rw [hrl.1, hfl]; simp
          refine ⟨_, c.add (c.w.alloc (.cells cs' e)) (.grow e n 0) (some c.w.heap.size), hrun', hev, ?_, rfl, ?_⟩
          · refine St.add hst hg _ _ ho ?_
            intro B hB
            rw [hρ] at hB; cases hB
            exact ⟨cs', heap_alloc_top _ _, by omega⟩
          · refine .sl n [] (some c.h.length) c.w.heap.size 0 0 (fun _ => undef) (by simp) (Nat.le_refl _) (by simp [maxLen]) (by simp [flat]) (by simp [flat]) ?_
            intro b hb
            cases hb
            refine ⟨by simp [Cx.add], fun e' s' n' hb' => ?_⟩
            simp [Cx.add] at hb'
            obtain ⟨rfl, rfl, rfl⟩ := hb'
            exact ⟨rfl, Nat.le_refl _, fun _ => ⟨rfl, hρ, Nat.le_refl _, by simp [maxLen], cs', heap_alloc_top _ _, by simpa using hcs⟩⟩
        · cases ha
          have hl' : (parts.map (·.2)).length = len := by simp [hlen]
          obtain ⟨hev, hs', hr⟩ := rel_sl_new (e := e) hst (fun x hx => (hall x hx).2) (by rw [hl']; exact hmaxl) hrl hone
          rw [hl'] at hr
          exact ⟨_, c.to (c.w.alloc (.cells cs' e)), hrun', hev, hs', rfl, hr⟩
    · cases ha


theorem run_buildSlice_zero {P : Program} {t e : TypeId} {n : Nat} (hu : P.underlying t = some (.slice e)) (hsz : ∀ w, (sizeOf e).run P w = .ok n w) (w : World) :
    (Instr.buildSlice t 0 #[]).run P w = .ok (.slice (some ⟨w.heap.size, 0, none⟩) 0 0) (w.alloc (.cells #[] e)) := by
  have h0 : (Array.range 0) = #[] := rfl
  simp [Instr.buildSlice, underlying, hu, hsz, h0, Instr.fill, newRow]
end Go.Proofs.Ytplnbmldkgcedaa.Ab
