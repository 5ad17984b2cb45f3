/-
  The abstract program logic: append, sound; len; parts of slices; maps.
-/
import Derived.Test.YtplnbmldkgcedaaAbG
set_option linter.unusedVariables false
set_option maxHeartbeats 4000000
namespace Go.Proofs.Ytplnbmldkgcedaa.Ab

/-- the values of a row -/
theorem row_vals {c : Cx} {B o : Nat} {ys : List AV} (hr : Row c B o ys) : ∃ news : List Value, news.length = (flat ys).length ∧ (∀ (j : Nat) u, news[j]? = some u → c.w.cell? ⟨B, o + j, none⟩ = some u) ∧
    (∀ u ∈ news, u.oneCell' = true) ∧ ∀ (j : Nat) a u, (flat ys)[j]? = some a → news[j]? = some u → Rel c a u := by
  refine ⟨(List.range (flat ys).length).map fun j => (c.w.cell? ⟨B, o + j, none⟩).getD undef, by simp, ?_, ?_, ?_⟩
  · intro j u hu
    have hlt := lt_of_get hu
    simp only [List.length_map, List.length_range] at hlt
    obtain ⟨v, h1, _⟩ := hr j _ (List.getElem?_eq_getElem hlt)
    simp [hlt, h1] at hu
    rw [h1, hu]
  · intro u hu
    simp only [List.mem_map, List.mem_range] at hu
    obtain ⟨j, hlt, rfl⟩ := hu
    obtain ⟨v, h1, h2, _⟩ := hr j _ (List.getElem?_eq_getElem hlt)
    rw [h1]; exact h2
  · intro j a u ha hu
    have hlt := lt_of_get ha
    obtain ⟨v, h1, _, h3⟩ := hr j a ha
    simp [hlt, h1] at hu
    rw [← hu]; exact h3

theorem size_zeros (z : Array Value) (n : Nat) : (Builtin.zeroCells z n).size = n * z.size := by simp [Builtin.zeroCells]

/-- append of nothing -/
theorem run_append_nothing {P : Program} {w : World} {t ty e : TypeId} {i : TypeInfo} (ht : P.underlying t = some (.slice e)) (hi : P.info? e = some i) (b : Option Addr) (n cap : Nat) (hcap : n ≤ cap) (x : Value)
    (hx : x = .slice none 0 0 ∨ ∃ a k, x = .slice (some a) 0 k) : (Builtin.append_ #[t, t] ty #[.slice b n cap, x]).run P w = .ok (.slice b n cap) w := by
  rcases hx with rfl | ⟨a, k, rfl⟩
  · cases b <;> simp [Builtin.append_, underlying, ht, sizeOf, typeInfo, hi, Builtin.lenOf, Builtin.firstCells, hcap, storeCells]
  · cases b <;> simp [Builtin.append_, underlying, ht, sizeOf, typeInfo, hi, Builtin.lenOf, Builtin.firstCells, hcap, storeCells, loadCells, loadCellsFrom]

/-- an append to a slice of no room makes a row of its own -/
theorem append_fresh {P : Program} {c : Cx} (hst : St c) {e s : Nat} {z : Value} (hzn : z.cells.size = s) {ys : List AV} {news : List Value} {x : Sem Value} (hnl : news.length = (flat ys).length) (hyl : (flat ys).length = ys.length * s)
    (hys : ∀ y ∈ ys, y.cells.length = s) (hno : ∀ u ∈ news, u.oneCell' = true) (hnr : ∀ (j : Nat) a u, (flat ys)[j]? = some a → news[j]? = some u → Rel c a u) (hb1 : ys.length ≤ maxLen)
    (hrun : x.run P c.w = .ok (.slice (some ⟨c.w.heap.size, 0, none⟩) ys.length (grownCap c.w ys.length 0 e)) (c.w.drew.alloc (.cells (news.toArray ++ Builtin.zeroCells z.cells (grownCap c.w ys.length 0 e - ys.length)) e))) :
    ∃ y c', x.run P c.w = .ok y c'.w ∧ Ev c c' ∧ St c' ∧ c'.h = c.h ++ [.cells e s ys] ∧ Rel c' (.arr c.h.length 0 ys.length) y := by
  let cap' := grownCap c.w ys.length 0 e
  let cells := news.toArray ++ Builtin.zeroCells z.cells (cap' - ys.length)
  have hcap1 : ys.length ≤ cap' := grownCap_ge _ _ _ _
  have hcap2 : cap' ≤ maxLen := grownCap_le_maxLen _ _ _ _ hb1
  have hg : Grows c.w (c.w.drew.alloc (.cells cells e)) := (Grows.drew c.w).trans (Grows.alloc _ _)
  have ho : ∀ B, some c.w.heap.size = some B → c.w.heap.size ≤ B := fun B h => by cases h; exact Nat.le_refl _
  have hev := Ev.add hst hg (.cells e s ys) (some c.w.heap.size) ho
  have hρ : (c.add (c.w.drew.alloc (.cells cells e)) (.cells e s ys) (some c.w.heap.size)).ρ c.h.length = some c.w.heap.size := by simp [Cx.add]
  have hheap : (c.w.drew.alloc (.cells cells e)).heap[c.w.heap.size]? = some (.cells cells e (0, 0)) := heap_alloc_top c.w.drew _
  have hst' := St.add hst hg (.cells e s ys) (some c.w.heap.size) ho (by
    refine ⟨_, cells, hρ, hheap, hys, fun j a ha => ?_⟩
    obtain ⟨u, hu2⟩ : ∃ u, news[j]? = some u := ⟨_, List.getElem?_eq_getElem (by rw [hnl]; exact lt_of_get ha)⟩
    refine ⟨u, ?_, hno u (List.mem_of_getElem? hu2), (hnr j a u ha hu2).ev hst hev⟩
    simp only [cells]
    rw [Array.getElem?_append_left (by simpa using lt_of_get hu2)]
    simpa using hu2)
  refine ⟨_, c.add (c.w.drew.alloc (.cells cells e)) (.cells e s ys) (some c.w.heap.size), hrun, hev, hst', rfl, .arr _ _ _ _ (by simp [Cx.add]) rfl ?_⟩
  intro ty s' xs' hb
  simp [Cx.add] at hb
  obtain ⟨rfl, rfl, rfl⟩ := hb
  exact ⟨c.w.heap.size, cap', hρ, by simp; rfl, hcap1, hcap2⟩

theorem append_sound {P : Program} {c : Cx} (hst : St c) {t t' ty : TypeId} {s x r : AV} {h' : AH} {us ux : Value} (ha : aAppend P t t' s x c.h = some (r, h')) (hs : Rel c s us) (hx : Rel c x ux) :
    ∃ y c', (Builtin.append_ #[t, t'] ty #[us, ux]).run P c.w = .ok y c'.w ∧ Ev c c' ∧ St c' ∧ c'.h = h' ∧ Rel c' r y := by
  unfold aAppend at ha
  cases hai : appInfo P t t' with
  | none => simp [hai] at ha
  | some a =>
    obtain ⟨e, n, bytes⟩ := a
    obtain ⟨i, z, e', hu, hu', hi, hz, rfl, hby, hzn, hn⟩ := appInfo_spec hai
    rw [append_types hu hu']
    simp only [hai] at ha
    cases hsrc : srcOf i.size c.h x with
    | none => simp [hsrc] at ha
    | some ys =>
      simp only [hsrc] at ha
      obtain ⟨hys, hxs⟩ := src_sound hst hsrc hx
      subst hby
      have hyl := flat_length hys
      cases hs with
      | v us =>
        split at ha
        · rename_i s' heq
          cases heq
          split at ha
          · rename_i hb
            obtain ⟨hb1, hb2⟩ := hb
            cases ha
            by_cases hm : ys = []
            · subst hm
              have hrun := run_append_nothing (P := P) (w := c.w) (ty := ty) hu hi none 0 0 (Nat.le_refl _) ux (by
                rcases hxs with ⟨h1, _⟩ | ⟨B, o, cap, h1, _⟩
                · exact h1.imp id fun ⟨ad, e⟩ => ⟨_, _, e⟩
                · exact .inr ⟨_, _, h1⟩)
              have hg := Grows.refl c.w
              have ho : ∀ B, (none : Option Nat) = some B → c.w.heap.size ≤ B := fun B h => by cases h
              have hρ : (c.add c.w (.grow e i.size 0) none).ρ c.h.length = none := by simp [Cx.add]
              refine ⟨_, c.add c.w (.grow e i.size 0) none, hrun, Ev.add hst hg _ _ ho, St.add hst hg _ _ ho ?_, rfl, .slnil _ _ ?_⟩
              · intro B hB; rw [hρ] at hB; cases hB
              · intro b hb
                cases hb
                refine ⟨by simp [Cx.add], fun e2 s2 n2 hg2 => ?_⟩
                simp [Cx.add] at hg2
                exact ⟨hg2.2.1.symm, fun _ => hρ⟩
            · rcases hxs with ⟨_, h1⟩ | ⟨B, o, cap, rfl, hrow, _⟩
              · exact absurd h1 hm
              · obtain ⟨news, hnl, hnc, hno, hnr⟩ := row_vals hrow
                have hpos : 0 < ys.length := by cases ys <;> simp_all
                have h63 : ys.length ≤ 9223372036854775807 := by simp only [maxLen] at hb1; omega
                have hrun := run_append_nil (P := P) c.w t ty e i z hu hi hz ⟨B, o, none⟩ ys.length cap news (by rw [hnl, hyl]) (fun j v hv => by rw [addr_add]; exact hnc j v hv) hpos (by omega) (by omega)
                let cap' := grownCap c.w ys.length 0 e
                let cells := news.toArray ++ Builtin.zeroCells z.cells (cap' - ys.length)
                have hcap1 : ys.length ≤ cap' := grownCap_ge _ _ _ _
                have hcap2 : cap' ≤ maxLen := grownCap_le_maxLen _ _ _ _ hb1
                have hcs : cells.size = cap' * i.size := by
                  simp only [cells, Array.size_append, List.size_toArray, hnl, hyl, size_zeros, hzn, ← Nat.add_mul]
                  congr 1; omega
                have hg : Grows c.w (c.w.drew.alloc (.cells cells e)) := (Grows.drew c.w).trans (Grows.alloc _ _)
                have ho : ∀ B, some c.w.heap.size = some B → c.w.heap.size ≤ B := fun B h => by cases h; exact Nat.le_refl _
                have hev := Ev.add hst hg (.grow e i.size ys.length) (some c.w.heap.size) ho
                have hρ : (c.add (c.w.drew.alloc (.cells cells e)) (.grow e i.size ys.length) (some c.w.heap.size)).ρ c.h.length = some c.w.heap.size := by simp [Cx.add]
                have hheap : (c.w.drew.alloc (.cells cells e)).heap[c.w.heap.size]? = some (.cells cells e (0, 0)) := heap_alloc_top c.w.drew _
                have hst' := St.add hst hg (.grow e i.size ys.length) (some c.w.heap.size) ho (by
                  intro B' hB'
                  rw [hρ] at hB'; cases hB'
                  exact ⟨cells, hheap, by rw [hcs]; exact Nat.mul_le_mul_right _ hcap1⟩)
                refine ⟨_, c.add (c.w.drew.alloc (.cells cells e)) (.grow e i.size ys.length) (some c.w.heap.size), hrun, hev, hst', rfl, ?_⟩
                refine rel_sl_tip hst' (by simp [Cx.add]) hρ hheap hcs hcap1 hcap2 hys ?_
                intro j a ha
                obtain ⟨u, hu2⟩ : ∃ u, news[j]? = some u := ⟨_, List.getElem?_eq_getElem (by rw [hnl]; exact lt_of_get ha)⟩
                refine ⟨u, ?_, hno u (List.mem_of_getElem? hu2), (hnr j a u ha hu2).ev hst hev⟩
                simp only [cells]
                rw [Array.getElem?_append_left (by simpa using lt_of_get hu2)]
                simpa using hu2
          · cases ha
        · simp_all
        · cases ha
      | slnil m own ht =>
        cases own with
        | none => simp at ha
        | some b =>
          simp only at ha
          split at ha
          · rename_i e2 n2 k hb
            split at ha
            · rename_i hh
              obtain ⟨rfl, rfl, rfl, hk, hb1, hb2⟩ := hh
              cases ha
              simp only [List.length_nil, Nat.zero_add] at hk hb1 hb2 ⊢
              subst hk
              obtain ⟨htl, htn⟩ := ht b rfl
              obtain ⟨_, hρn⟩ := htn _ _ _ hb
              have hρ0 := hρn rfl
              by_cases hm : ys = []
              · subst hm
                have hrun := run_append_nothing (P := P) (w := c.w) (ty := ty) hu hi none 0 0 (Nat.le_refl _) ux (by
                  rcases hxs with ⟨h1, _⟩ | ⟨B, o, cap, h1, _⟩
                  · exact h1.imp id fun ⟨ad, e⟩ => ⟨_, _, e⟩
                  · exact .inr ⟨_, _, h1⟩)
                have hset : c.h.set b (.grow e2 i.size 0) = c.h := by
                  apply List.ext_getElem?
                  intro j
                  rw [List.getElem?_set]
                  split
                  · rename_i hj; subst hj; rw [hb]; first | done | rfl
                  · rfl
                refine ⟨_, c, hrun, Ev.refl c, hst, hset.symm, ?_⟩
                exact .slnil _ _ ht
              · rcases hxs with ⟨_, h1⟩ | ⟨B, o, cap, rfl, hrow, _⟩
                · exact absurd h1 hm
                · obtain ⟨news, hnl, hnc, hno, hnr⟩ := row_vals hrow
                  have hpos : 0 < ys.length := by cases ys <;> simp_all
                  have h63 : ys.length ≤ 9223372036854775807 := by simp only [maxLen] at hb1; omega
                  have hrun := run_append_nil (P := P) c.w t ty e2 i z hu hi hz ⟨B, o, none⟩ ys.length cap news (by rw [hnl, hyl]) (fun j v hv => by rw [addr_add]; exact hnc j v hv) hpos (by omega) (by omega)
                  let cap' := grownCap c.w ys.length 0 e2
                  let cells := news.toArray ++ Builtin.zeroCells z.cells (cap' - ys.length)
                  have hcap1 : ys.length ≤ cap' := grownCap_ge _ _ _ _
                  have hcap2 : cap' ≤ maxLen := grownCap_le_maxLen _ _ _ _ hb1
                  have hcs : cells.size = cap' * i.size := by
                    simp only [cells, Array.size_append, List.size_toArray, hnl, hyl, size_zeros, hzn, ← Nat.add_mul]
                    congr 1; omega
                  have hg : Grows c.w (c.w.drew.alloc (.cells cells e2)) := (Grows.drew c.w).trans (Grows.alloc _ _)
                  have ho : ∀ B, some c.w.heap.size = some B → c.w.heap.size ≤ B := fun B h => by cases h; exact Nat.le_refl _
                  have hev := Ev.move hst hg hb hpos ho
                  have hρ : (c.move (c.w.drew.alloc (.cells cells e2)) b (.grow e2 i.size ys.length) (some c.w.heap.size)).ρ b = some c.w.heap.size := by simp [Cx.move]
                  have hheap : (c.w.drew.alloc (.cells cells e2)).heap[c.w.heap.size]? = some (.cells cells e2 (0, 0)) := heap_alloc_top c.w.drew _
                  have hst' := St.move hst hg hb hpos ho (by
                    intro B' hB'
                    rw [hρ] at hB'; cases hB'
                    exact ⟨cells, hheap, by rw [hcs]; exact Nat.mul_le_mul_right _ hcap1⟩)
                  refine ⟨_, c.move (c.w.drew.alloc (.cells cells e2)) b (.grow e2 i.size ys.length) (some c.w.heap.size), hrun, hev, hst', rfl, ?_⟩
                  refine rel_sl_tip hst' (by simp [Cx.move, htl]) hρ hheap hcs hcap1 hcap2 hys ?_
                  intro j a ha
                  obtain ⟨u, hu2⟩ : ∃ u, news[j]? = some u := ⟨_, List.getElem?_eq_getElem (by rw [hnl]; exact lt_of_get ha)⟩
                  refine ⟨u, ?_, hno u (List.mem_of_getElem? hu2), (hnr j a u ha hu2).ev hst hev⟩
                  simp only [cells]
                  rw [Array.getElem?_append_left (by simpa using lt_of_get hu2)]
                  simpa using hu2
            · cases ha
          · rename_i hb
            split at ha
            · rename_i hh
              obtain ⟨rfl, _, hb1, hb2⟩ := hh
              by_cases hm : ys = []
              · subst hm
                simp only [List.isEmpty_nil, if_true, Option.some.injEq, Prod.mk.injEq] at ha
                obtain ⟨rfl, rfl⟩ := ha
                have hrun := run_append_nothing (P := P) (w := c.w) (ty := ty) hu hi none 0 0 (Nat.le_refl _) ux (by
                  rcases hxs with ⟨h1, _⟩ | ⟨B, o, cap, h1, _⟩
                  · exact h1.imp id fun ⟨ad, e⟩ => ⟨_, _, e⟩
                  · exact .inr ⟨_, _, h1⟩)
                exact ⟨_, c, hrun, Ev.refl c, hst, rfl, .slnil _ _ (fun b hb => by cases hb)⟩
              · have hne : ys.isEmpty = false := by cases ys <;> simp_all
                simp only [hne, Bool.false_eq_true, if_false, Option.some.injEq, Prod.mk.injEq] at ha
                obtain ⟨rfl, rfl⟩ := ha
                rcases hxs with ⟨_, h1⟩ | ⟨B, o, cap, rfl, hrow, _⟩
                · exact absurd h1 hm
                · obtain ⟨news, hnl, hnc, hno, hnr⟩ := row_vals hrow
                  have hpos : 0 < ys.length := by cases ys <;> simp_all
                  have h63 : ys.length ≤ 9223372036854775807 := by simp only [maxLen] at hb1; omega
                  have hrun := run_append_nil (P := P) c.w t ty e i z hu hi hz ⟨B, o, none⟩ ys.length cap news (by rw [hnl, hyl]) (fun j v hv => by rw [addr_add]; exact hnc j v hv) hpos (by omega) (by omega)
                  exact append_fresh hst hzn hnl hyl hys hno hnr hb1 hrun
            · cases ha
          · cases ha
      | slzero m own ba ht =>
        cases own with
        | none => simp at ha
        | some b =>
          simp only at ha
          split at ha
          · rename_i e2 n2 k hb
            split at ha
            · rename_i hh
              obtain ⟨rfl, rfl, rfl, hk, hb1, hb2⟩ := hh
              cases ha
              simp only [List.length_nil, Nat.zero_add] at hk hb1 hb2 ⊢
              subst hk
              obtain ⟨htl, htn⟩ := ht b rfl
              obtain ⟨_, hρn⟩ := htn _ _ _ hb
              have hρ0 := hρn rfl
              by_cases hm : ys = []
              · subst hm
                have hrun := run_append_nothing (P := P) (w := c.w) (ty := ty) hu hi (some ba) 0 0 (Nat.le_refl _) ux (by
                  rcases hxs with ⟨h1, _⟩ | ⟨B, o, cap, h1, _⟩
                  · exact h1.imp id fun ⟨ad, e⟩ => ⟨_, _, e⟩
                  · exact .inr ⟨_, _, h1⟩)
                have hset : c.h.set b (.grow e2 i.size 0) = c.h := by
                  apply List.ext_getElem?
                  intro j
                  rw [List.getElem?_set]
                  split
                  · rename_i hj; subst hj; rw [hb]; first | done | rfl
                  · rfl
                refine ⟨_, c, hrun, Ev.refl c, hst, hset.symm, ?_⟩
                exact .slzero _ _ _ ht
              · rcases hxs with ⟨_, h1⟩ | ⟨B, o, cap, rfl, hrow, _⟩
                · exact absurd h1 hm
                · obtain ⟨news, hnl, hnc, hno, hnr⟩ := row_vals hrow
                  have hpos : 0 < ys.length := by cases ys <;> simp_all
                  have h63 : ys.length ≤ 9223372036854775807 := by simp only [maxLen] at hb1; omega
                  have hrun := run_append_grow (P := P) c.w t ty e2 i z hu hi hz ba 0 0 [] (by simp) (fun j v hv => by simp at hv) ⟨B, o, none⟩ ys.length cap news (by rw [hnl, hyl]) (fun j v hv => by rw [addr_add]; exact hnc j v hv) (by omega) (by omega) (growslice_fits (by omega) (by simpa using hb2))
                  simp only [Nat.zero_add, Array.empty_append] at hrun
                  let cap' := grownCap c.w ys.length 0 e2
                  let cells := news.toArray ++ Builtin.zeroCells z.cells (cap' - ys.length)
                  have hcap1 : ys.length ≤ cap' := grownCap_ge _ _ _ _
                  have hcap2 : cap' ≤ maxLen := grownCap_le_maxLen _ _ _ _ hb1
                  have hcs : cells.size = cap' * i.size := by
                    simp only [cells, Array.size_append, List.size_toArray, hnl, hyl, size_zeros, hzn, ← Nat.add_mul]
                    congr 1; omega
                  have hg : Grows c.w (c.w.drew.alloc (.cells cells e2)) := (Grows.drew c.w).trans (Grows.alloc _ _)
                  have ho : ∀ B, some c.w.heap.size = some B → c.w.heap.size ≤ B := fun B h => by cases h; exact Nat.le_refl _
                  have hev := Ev.move hst hg hb hpos ho
                  have hρ : (c.move (c.w.drew.alloc (.cells cells e2)) b (.grow e2 i.size ys.length) (some c.w.heap.size)).ρ b = some c.w.heap.size := by simp [Cx.move]
                  have hheap : (c.w.drew.alloc (.cells cells e2)).heap[c.w.heap.size]? = some (.cells cells e2 (0, 0)) := heap_alloc_top c.w.drew _
                  have hst' := St.move hst hg hb hpos ho (by
                    intro B' hB'
                    rw [hρ] at hB'; cases hB'
                    exact ⟨cells, hheap, by rw [hcs]; exact Nat.mul_le_mul_right _ hcap1⟩)
                  refine ⟨_, c.move (c.w.drew.alloc (.cells cells e2)) b (.grow e2 i.size ys.length) (some c.w.heap.size), hrun, hev, hst', rfl, ?_⟩
                  refine rel_sl_tip hst' (by simp [Cx.move, htl]) hρ hheap hcs hcap1 hcap2 hys ?_
                  intro j a ha
                  obtain ⟨u, hu2⟩ : ∃ u, news[j]? = some u := ⟨_, List.getElem?_eq_getElem (by rw [hnl]; exact lt_of_get ha)⟩
                  refine ⟨u, ?_, hno u (List.mem_of_getElem? hu2), (hnr j a u ha hu2).ev hst hev⟩
                  simp only [cells]
                  rw [Array.getElem?_append_left (by simpa using lt_of_get hu2)]
                  simpa using hu2
            · cases ha
          · rename_i hb
            split at ha
            · rename_i hh
              obtain ⟨rfl, _, hb1, hb2⟩ := hh
              by_cases hm : ys = []
              · subst hm
                simp only [List.isEmpty_nil, if_true, Option.some.injEq, Prod.mk.injEq] at ha
                obtain ⟨rfl, rfl⟩ := ha
                have hrun := run_append_nothing (P := P) (w := c.w) (ty := ty) hu hi (some ba) 0 0 (Nat.le_refl _) ux (by
                  rcases hxs with ⟨h1, _⟩ | ⟨B, o, cap, h1, _⟩
                  · exact h1.imp id fun ⟨ad, e⟩ => ⟨_, _, e⟩
                  · exact .inr ⟨_, _, h1⟩)
                exact ⟨_, c, hrun, Ev.refl c, hst, rfl, .slzero _ _ _ (fun b hb => by cases hb)⟩
              · have hne : ys.isEmpty = false := by cases ys <;> simp_all
                simp only [hne, Bool.false_eq_true, if_false, Option.some.injEq, Prod.mk.injEq] at ha
                obtain ⟨rfl, rfl⟩ := ha
                rcases hxs with ⟨_, h1⟩ | ⟨B, o, cap, rfl, hrow, _⟩
                · exact absurd h1 hm
                · obtain ⟨news, hnl, hnc, hno, hnr⟩ := row_vals hrow
                  have hpos : 0 < ys.length := by cases ys <;> simp_all
                  have h63 : ys.length ≤ 9223372036854775807 := by simp only [maxLen] at hb1; omega
                  have hrun := run_append_grow (P := P) c.w t ty e i z hu hi hz ba 0 0 [] (by simp) (fun j v hv => by simp at hv) ⟨B, o, none⟩ ys.length cap news (by rw [hnl, hyl]) (fun j v hv => by rw [addr_add]; exact hnc j v hv) (by omega) (by omega) (growslice_fits (by omega) (by simpa using hb2))
                  simp only [Nat.zero_add, Array.empty_append] at hrun
                  exact append_fresh hst hzn hnl hyl hys hno hnr hb1 hrun
            · cases ha
          · cases ha
      | sl m xs own B0 o0 cap0 f hsu hcap0 hmax0 hc hr ht =>
        cases own with
        | none => simp at ha
        | some b =>
          simp only at ha
          split at ha
          · rename_i e2 n2 k hb
            split at ha
            · rename_i hh
              obtain ⟨rfl, rfl, rfl, rfl, hb1, hb2⟩ := hh
              cases ha
              obtain ⟨⟨htl, htd⟩, htn⟩ := ht b rfl
              obtain ⟨_, _, h3⟩ := htn _ _ _ hb
              obtain ⟨rfl, hρ0, _, _, cur, hB0, hcur⟩ := h3 rfl
              have hxl := flat_length hsu
              by_cases hm : ys = []
              · subst hm
                have hrun := run_append_nothing (P := P) (w := c.w) (ty := ty) hu hi (some ⟨B0, 0, none⟩) xs.length cap0 hcap0 ux (by
                  rcases hxs with ⟨h1, _⟩ | ⟨B, o, cap, h1, _⟩
                  · exact h1.imp id fun ⟨ad, e⟩ => ⟨_, _, e⟩
                  · exact .inr ⟨_, _, h1⟩)
                have hset : c.h.set b (.grow e2 i.size (xs.length + ([] : List AV).length)) = c.h := by
                  apply List.ext_getElem?
                  intro j
                  rw [List.getElem?_set]
                  split
                  · rename_i hj; subst hj; rw [hb]; first | done | rfl
                  · rfl
                refine ⟨_, c, hrun, Ev.refl c, hst, hset.symm, ?_⟩
                rw [List.append_nil]
                exact .sl _ xs _ B0 0 cap0 f hsu hcap0 hmax0 hc hr ht
              · rcases hxs with ⟨_, h1⟩ | ⟨B, o, cap, rfl, hrow, _⟩
                · exact absurd h1 hm
                · obtain ⟨news, hnl, hnc, hno, hnr⟩ := row_vals hrow
                  have hrow0 : Row c B0 0 xs := fun j a hj => ⟨f j, (hc j a hj).1.1, (hc j a hj).2, hr j a hj⟩
                  obtain ⟨olds, hol, hoc, hoo, hor⟩ := row_vals hrow0
                  have hpos : 0 < ys.length := by cases ys <;> simp_all
                  have hall : ∀ x ∈ xs ++ ys, x.cells.length = i.size := fun x hx => (List.mem_append.1 hx).elim (hsu x) (hys x)
                  have hlenxy : (xs ++ ys).length = xs.length + ys.length := List.length_append
                  by_cases hroom : xs.length + ys.length ≤ cap0
                  · -- there is room
                    have hfit : xs.length * i.size + news.length ≤ cur.size := by
                      rw [hnl, hyl, hcur, ← Nat.add_mul]; exact Nat.mul_le_mul_right _ hroom
                    have hrun := run_append_room (P := P) c.w t ty e2 i hu hi B0 xs.length cap0 cur hB0 ⟨B, o, none⟩ ys.length cap news (by rw [hnl, hyl]) (fun j v hv => by rw [addr_add]; exact hnc j v hv) hno hroom hfit
                    let cur' := (cur.toList.take (xs.length * i.size) ++ news ++ cur.toList.drop (xs.length * i.size + news.length)).toArray
                    have hheap : (c.w.setRow B0 cur').heap[B0]? = some (.cells cur' e2 (0, 0)) := setRow_heap c.w B0 cur cur' e2 (0, 0) hB0
                    have hsz : cur'.size = cap0 * i.size := by
                      rw [← hcur]; simp only [cur', List.size_toArray, List.length_append, List.length_take, List.length_drop, Array.length_toList]; omega
                    have htl' : (cur.toList.take (xs.length * i.size)).length = xs.length * i.size := by simp; omega
                    have hold : ∀ j, j < xs.length * i.size → cur'[j]? = cur[j]? := by
                      intro j hj
                      simp only [cur', List.getElem?_toArray]
                      rw [List.append_assoc, List.getElem?_append_left (by omega), List.getElem?_take_of_lt hj]; simp
                    have hev : Ev c (c.turn (c.w.setRow B0 cur') b (.grow e2 i.size (xs.length + ys.length))) :=
                      Ev.turn hst hb rfl hρ0 rfl rfl rfl (by simp [World.setRow]) (fun k hk => heap_setRow c.w B0 cur' k hk)
                        ⟨_, rfl, by omega, fun h => by omega, fun B' hB' => .inl hB', fun B' cur2 hB' hc2 => by
                          rw [hρ0] at hB'; cases hB'
                          rw [hB0] at hc2; cases hc2
                          exact ⟨cur', hheap, hsz.trans hcur.symm, hold⟩⟩
                    have hst' := St.turn hst hb rfl hρ0 (fun k hk => heap_setRow c.w B0 cur' k hk) hev (by
                      intro B' hB'
                      simp only [Cx.turn] at hB'
                      rw [hρ0] at hB'; cases hB'
                      exact ⟨cur', hheap, by rw [hsz]; exact Nat.mul_le_mul_right _ hroom⟩)
                    refine ⟨_, c.turn (c.w.setRow B0 cur') b (.grow e2 i.size (xs.length + ys.length)), hrun, hev, hst', rfl, ?_⟩
                    suffices hrel : Rel (c.turn (c.w.setRow B0 cur') b (.grow e2 i.size (xs.length + ys.length))) (.sl i.size (xs ++ ys) (some b)) (.slice (some ⟨B0, 0, none⟩) (xs ++ ys).length cap0) by
                      rw [hlenxy] at hrel; exact hrel
                    refine rel_sl_tip hst' (by simp [Cx.turn, htl]) hρ0 hheap hsz (by omega) hmax0 hall ?_
                    intro j a hj
                    rw [flat_append] at hj
                    by_cases hj2 : j < xs.length * i.size
                    · rw [List.getElem?_append_left (by omega)] at hj
                      obtain ⟨u, h4, h5, h6⟩ := hrow0 j a hj
                      rw [Nat.zero_add, cell_cells hB0] at h4
                      exact ⟨u, (hold j hj2).trans h4, h5, h6.ev hst hev⟩
                    · rw [List.getElem?_append_right (by omega), hxl] at hj
                      obtain ⟨u, hu2⟩ : ∃ u, news[j - xs.length * i.size]? = some u := ⟨_, List.getElem?_eq_getElem (by rw [hnl]; exact lt_of_get hj)⟩
                      refine ⟨u, ?_, hno u (List.mem_of_getElem? hu2), (hnr _ a u hj hu2).ev hst hev⟩
                      simp only [cur', List.getElem?_toArray]
                      rw [List.append_assoc, List.getElem?_append_right (by omega), htl', List.getElem?_append_left (lt_of_get hu2)]
                      exact hu2
                  · -- a new array
                    have h63 : xs.length + ys.length ≤ 9223372036854775807 := by simp only [maxLen] at hb1; omega
                    have hrun := run_append_grow (P := P) c.w t ty e2 i z hu hi hz ⟨B0, 0, none⟩ xs.length cap0 olds (by rw [hol, hxl]) (fun j v hv => by rw [addr_add]; exact hoc j v hv)
                      ⟨B, o, none⟩ ys.length cap news (by rw [hnl, hyl]) (fun j v hv => by rw [addr_add]; exact hnc j v hv) (by omega) (by omega) (growslice_fits (by omega) hb2)
                    let cap' := grownCap c.w (xs.length + ys.length) cap0 e2
                    let cells := olds.toArray ++ news.toArray ++ Builtin.zeroCells z.cells (cap' - (xs.length + ys.length))
                    have hcap1 : xs.length + ys.length ≤ cap' := grownCap_ge _ _ _ _
                    have hcap2 : cap' ≤ maxLen := grownCap_le_maxLen _ _ _ _ hb1
                    have hcs : cells.size = cap' * i.size := by
                      simp only [cells, Array.size_append, List.size_toArray, hnl, hyl, hol, hxl, size_zeros, hzn, ← Nat.add_mul]
                      congr 1; omega
                    have hg : Grows c.w (c.w.drew.alloc (.cells cells e2)) := (Grows.drew c.w).trans (Grows.alloc _ _)
                    have ho : ∀ B, some c.w.heap.size = some B → c.w.heap.size ≤ B := fun B h => by cases h; exact Nat.le_refl _
                    have hlt : xs.length < xs.length + ys.length := by omega
                    have hev := Ev.move hst hg hb hlt ho
                    have hρ : (c.move (c.w.drew.alloc (.cells cells e2)) b (.grow e2 i.size (xs.length + ys.length)) (some c.w.heap.size)).ρ b = some c.w.heap.size := by simp [Cx.move]
                    have hheap : (c.w.drew.alloc (.cells cells e2)).heap[c.w.heap.size]? = some (.cells cells e2 (0, 0)) := heap_alloc_top c.w.drew _
                    have hst' := St.move hst hg hb hlt ho (by
                      intro B' hB'
                      rw [hρ] at hB'; cases hB'
                      exact ⟨cells, hheap, by rw [hcs]; exact Nat.mul_le_mul_right _ hcap1⟩)
                    refine ⟨_, c.move (c.w.drew.alloc (.cells cells e2)) b (.grow e2 i.size (xs.length + ys.length)) (some c.w.heap.size), hrun, hev, hst', rfl, ?_⟩
                    suffices hrel : Rel (c.move (c.w.drew.alloc (.cells cells e2)) b (.grow e2 i.size (xs.length + ys.length)) (some c.w.heap.size)) (.sl i.size (xs ++ ys) (some b)) (.slice (some ⟨c.w.heap.size, 0, none⟩) (xs ++ ys).length cap') by
                      rw [hlenxy] at hrel; exact hrel
                    refine rel_sl_tip hst' (by simp [Cx.move, htl]) hρ hheap hcs (by rw [hlenxy]; exact hcap1) hcap2 hall ?_
                    intro j a hj
                    rw [flat_append] at hj
                    have hrel2 : ∀ u, (olds ++ news)[j]? = some u → cells[j]? = some u := by
                      intro u hu2
                      simp only [cells]
                      rw [Array.getElem?_append_left (by have := lt_of_get hu2; simpa using this)]
                      simpa using hu2
                    by_cases hj2 : j < xs.length * i.size
                    · rw [List.getElem?_append_left (by omega)] at hj
                      obtain ⟨u, hu2⟩ : ∃ u, olds[j]? = some u := ⟨_, List.getElem?_eq_getElem (by rw [hol]; exact lt_of_get hj)⟩
                      exact ⟨u, hrel2 u (by rw [List.getElem?_append_left (lt_of_get hu2)]; exact hu2), hoo u (List.mem_of_getElem? hu2), (hor j a u hj hu2).ev hst hev⟩
                    · rw [List.getElem?_append_right (by omega), hxl] at hj
                      obtain ⟨u, hu2⟩ : ∃ u, news[j - xs.length * i.size]? = some u := ⟨_, List.getElem?_eq_getElem (by rw [hnl]; exact lt_of_get hj)⟩
                      exact ⟨u, hrel2 u (by rw [List.getElem?_append_right (by omega), hol, hxl]; exact hu2), hno u (List.mem_of_getElem? hu2), (hnr _ a u hj hu2).ev hst hev⟩
            · cases ha
          · rename_i hb
            exact absurd hb (ht b rfl).1.2
          · cases ha
      | _ => simp at ha

end Go.Proofs.Ytplnbmldkgcedaa.Ab
