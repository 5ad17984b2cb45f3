/-
  Readings of slices whose elements are known to be of some kind.
-/
import Derived.Test.YtdjkaapmaonegaaAbX
set_option linter.unusedVariables false
set_option maxHeartbeats 4000000
namespace Go.Proofs.Ytdjkaapmaonegaa.Ab
theorem read_sliceP {H : Type} {enc : TypeId × Value → H} {P : Program} {W : World} {t e : TypeId} {s fuel : Nat} {cs : List Value} {y : DataW H × List MemPlace} {X : Type} {val : X → AV} {Good : X → Prop} {Pz : DataW H → Prop}
    (ht : P.underlying t = some (.slice e)) (hs : P.cellsOf e = s) (hpos : 0 < s) (hval : ∀ x, (val x).cells.length = s)
    (rd : ∀ n cs y, n < fuel → Pz y.1 → DataW.trod enc P W 0 (fun _ => true) true n e cs = some y → ∃ x : X, Good x ∧ Reads W (val x) cs)
    (hP : ∀ es rest, y.1 = .slice es rest → ∀ z ∈ es, Pz z)
    (h : DataW.trod enc P W 0 (fun _ => true) true fuel t cs = some y) : ∃ (xs : List X) (u : Value), (∀ x ∈ xs, Good x) ∧ cs = [u] ∧ u.oneCell' = true ∧ Rel (base0 W) (.sl s (xs.map val) none) u := by
  rcases DataW.trod_slice ht h with ⟨rfl, _⟩ | ⟨a, len, cap, elems, rest, n, rfl, rfl, hy, _, hlc, hcm, hlen, hel, hsp, _⟩
  · exact ⟨[], _, (by simp), rfl, rfl, .slnil s none fun b hb => by cases hb⟩
  · have each : ∀ i, i < len → ∃ x : X, Good x ∧ ∃ cs, W.cells? 0 (a.add (i * s)) s = some cs ∧ Reads W (val x) cs := by
      intro i hi
      have h1 := hel i hi
      rw [List.getElem?_eq_getElem (by omega), hs, Option.bind_eq_some_iff] at h1
      obtain ⟨cs, h2, h3⟩ := h1
      obtain ⟨x, hx1, hx2⟩ := rd n cs _ (Nat.lt_succ_self n) (hP _ _ (congrArg Prod.fst hy) _ (List.mem_map.2 ⟨_, List.getElem_mem (by omega), rfl⟩)) h3
      exact ⟨x, hx1, cs, h2, hx2⟩
    obtain ⟨xs, hxl, hxs⟩ : ∃ xs : List X, xs.length = len ∧ ∀ i (hi : i < xs.length), Good xs[i] ∧ ∃ cs, W.cells? 0 (a.add (i * s)) s = some cs ∧ Reads W (val xs[i]) cs := by
      have : ∀ m, m ≤ len → ∃ xs : List X, xs.length = m ∧ ∀ i (hi : i < xs.length), Good xs[i] ∧ ∃ cs, W.cells? 0 (a.add (i * s)) s = some cs ∧ Reads W (val xs[i]) cs := by
        intro m
        induction m with
        | zero => exact fun _ => ⟨[], rfl, fun i hi => by simp at hi⟩
        | succ m ih =>
          intro hm
          obtain ⟨xs, hl, hx⟩ := ih (by omega)
          obtain ⟨x, hg, hr⟩ := each m (by omega)
          refine ⟨xs ++ [x], by simp [hl], fun i hi => ?_⟩
          by_cases hi' : i < xs.length
          · rw [List.getElem_append_left hi']; exact hx i hi'
          · have e : i = m := by simp at hi; omega
            subst e
            have hxe : (xs ++ [x])[i] = x := by simp [← hl]
            rw [hxe]
            exact ⟨hg, hr⟩
      exact this len (Nat.le_refl _)
    have hgood : ∀ x ∈ xs, Good x := fun x hx => by
      obtain ⟨i, hi, rfl⟩ := List.getElem_of_mem hx
      exact (hxs i hi).1
    by_cases hcap : cap = 0
    · have hl0 : len = 0 := by omega
      subst hcap; subst hl0
      have : xs = [] := List.length_eq_zero_iff.1 hxl
      subst this
      exact ⟨[], _, (by simp), rfl, rfl, .slzero s none a fun b hb => by cases hb⟩
    · have hspot : a.spot = none := by
        have key : W.cells? 0 (a.add (0 * s)) s ≠ none → a.spot = none := by
          intro hk
          cases hc : W.cells? 0 (a.add (0 * s)) s with
          | none => exact absurd hc hk
          | some cs =>
            obtain ⟨_, hl, hcell⟩ := World.cells?_some hc
            have := hcell 0 hpos
            rw [List.getElem?_eq_getElem (by omega)] at this
            have := (cell_size this).2
            simpa [Addr.add] using this
        by_cases hl : 0 < len
        · refine key fun hn => ?_
          have := hel 0 hl
          rw [hs, hn, List.getElem?_eq_getElem (by omega)] at this
          simp at this
        · obtain ⟨hrl, hr⟩ := hsp rfl
          refine key fun hn => ?_
          have := hr 0 (by omega)
          rw [show len + 0 = 0 by omega, hs, hn, List.getElem?_eq_getElem (by omega)] at this
          simp at this
      have ha : a = ⟨a.block, a.off, none⟩ := by cases a; simp only at hspot; subst hspot; rfl
      have hvs : ∀ x ∈ xs.map val, x.cells.length = s := fun x hx => by
        obtain ⟨z, _, rfl⟩ := List.mem_map.1 hx
        exact hval z
      have hflat : ∀ (j : Nat) (v : AV), (flat (xs.map val))[j]? = some v → ∃ (i : Nat) (hi : i < xs.length) (k : Nat), k < s ∧ j = i * s + k ∧ (val xs[i]).cells[k]? = some v := by
        intro j v hj
        have hlt := lt_of_get hj
        rw [flat_length hvs, List.length_map] at hlt
        have hi : j / s < xs.length := by rw [Nat.div_lt_iff_lt_mul hpos]; exact hlt
        have hdm := Nat.div_add_mod j s
        have hml := Nat.mod_lt j hpos
        refine ⟨j / s, hi, j % s, hml, by rw [Nat.mul_comm]; exact hdm.symm, ?_⟩
        obtain ⟨v', hv'⟩ : ∃ v', (val (xs[j / s]'hi)).cells[j % s]? = some v' := ⟨_, List.getElem?_eq_getElem (by rw [hval]; exact hml)⟩
        have := flat_get hvs (k := j / s) (x := val (xs[j / s]'hi)) (by rw [List.getElem?_map, List.getElem?_eq_getElem hi]; rfl) hv'
        rw [show j / s * s + j % s = j by rw [Nat.mul_comm]; exact hdm, hj] at this
        rw [hv', this]
      have hcell : ∀ (j : Nat) (v : AV), (flat (xs.map val))[j]? = some v → ∃ u, W.cell? ⟨a.block, a.off + j, none⟩ = some u ∧ Rel (base0 W) v u ∧ u.oneCell' = true := by
        intro j v hj
        obtain ⟨i, hi, k, hk, rfl, hv⟩ := hflat j v hj
        obtain ⟨_, cs, hcs, hrd⟩ := hxs i hi
        obtain ⟨_, hl, hc⟩ := World.cells?_some hcs
        obtain ⟨u, hu⟩ : ∃ u, cs[k]? = some u := ⟨_, List.getElem?_eq_getElem (by omega)⟩
        have h1 := hc k hk
        rw [hu] at h1
        obtain ⟨h2, h3⟩ := hrd.2 k v u hv hu
        refine ⟨u, ?_, h2, h3⟩
        have e : (a.add (i * s)).add k = ⟨a.block, a.off + (i * s + k), none⟩ := by
          rw [ha, addr_add, addr_add, Nat.add_assoc]
        rw [← e]
        exact h1
      refine ⟨xs, _, hgood, rfl, rfl, ?_⟩
      have hsl := Rel.sl (c := base0 W) s (xs.map val) none a.block a.off cap (fun j => (W.cell? ⟨a.block, a.off + j, none⟩).getD undef) hvs (by rw [List.length_map]; omega) hcm
        (fun j v hj => by
          obtain ⟨u, h1, h2, h3⟩ := hcell j v hj
          rw [h1]
          exact ⟨⟨h1, prot_base0 (cell_size h1).1⟩, h3⟩)
        (fun j v hj => by
          obtain ⟨u, h1, h2, h3⟩ := hcell j v hj
          rw [h1]
          exact h2)
        (fun b hb => by cases hb)
      rw [List.length_map, hxl, ← ha] at hsl
      exact hsl

/-- an argument that is a slice -/
theorem open_rowsP {H : Type} {enc : TypeId × Value → H} {P : Program} {W : World} {r : Reach} {b0 : Nat} {t e : TypeId} {s : Nat} {v : Value} {d : DataW H} {ps : List MemPlace} {X : Type} {val : X → AV} {Good : X → Prop} {Pz : DataW H → Prop}
    (ht : P.underlying t = some (.slice e)) (hs : P.cellsOf e = s) (hpos : 0 < s) (hval : ∀ x, (val x).cells.length = s) (hv : Value.okWide P W r b0 t v) (hd : DataW.Trod enc P W 0 (fun _ => true) true t v d ps)
    (rd : ∀ fuel cs y, Pz y.1 → DataW.trod enc P W 0 (fun _ => true) true fuel e cs = some y → ∃ x : X, Good x ∧ Reads W (val x) cs) (hP : ∀ es rest, d = .slice es rest → ∀ z ∈ es, Pz z) : ∃ xs : List X, (∀ x ∈ xs, Good x) ∧ Rel (base0 W) (.sl s (xs.map val) none) v := by
  obtain ⟨fuel, hf⟩ := hd
  rw [cells_slice ht hv] at hf
  obtain ⟨xs, u, h1, h2, _, h3⟩ := read_sliceP (Pz := Pz) ht hs hpos hval (fun n cs y _ hp h => rd n cs y hp h) hP hf
  cases h2
  exact ⟨xs, h1, h3⟩


end Go.Proofs.Ytdjkaapmaonegaa.Ab
