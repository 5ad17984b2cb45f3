/-
  From a row's reading to the abstract program logic, and back to the row's promise.
-/
import Derived.Test.YthkiabcdkhpheaaDoorAbThree
import Derived.ProofKit
import Derived.WalkKit
import Derived.OpenShut
set_option linter.unusedVariables false
set_option maxHeartbeats 4000000
namespace Go.Proofs.YthkiabcdkhpheaaDoor.Ab
open Go.ChangeShapes Go.WideShapes Go.ChangeAt Go.RowKit

/-- nothing is owned -/
def base0 (W : World) : Cx := ⟨fun _ => none, [], W⟩
theorem st_base0 (W : World) : St (base0 W) := ⟨fun id b h => by simp [base0] at h, fun i j a b B h => by simp [base0] at h⟩
theorem prot_base0 {W : World} {B o : Nat} (h : B < W.heap.size) : (base0 W).prot B o := ⟨h, fun id b hb => by simp [base0] at hb⟩
theorem below_of_ev {W : World} {c : Cx} (h : Ev (base0 W) c) : Go.RowKit.Below W.heap.size W c.w :=
  ⟨h.os, h.tape, h.output, h.size, fun k hk => h.frame k hk fun ⟨id, b, hb, _⟩ => by simp [base0] at hb⟩

theorem law_calls {P : Program} {f : FuncId} {as : List AV} {W : World} {args : Array Value} (hc : CallW P f as [] fun o h' => o = .ret (.v (.bool true)) ∧ h' = []) (hr : RelL (base0 W) as args) :
    Calls P f args W fun e W' => e = .returned (.bool true) ∧ Go.RowKit.Below W.heap.size W W' := by
  refine callsIn_wide.1 ((hc.2 Fence.wide 0 (base0 W) args WF.wide (st_base0 W) rfl hr).mono ?_)
  rintro e w' ⟨o, c', ⟨rfl, hh⟩, hev, hst, rfl, hend⟩
  obtain ⟨x, rfl, hx⟩ := hend
  cases hx
  exact ⟨rfl, below_of_ev hev⟩

theorem trodAll_stays {H : Type} {enc : TypeId × Value → H} {P : Program} (hl : laidOutB P = true) {W W' : World} (hb : Go.RowKit.Below W.heap.size W W') {sp : Nat → Bool} :
    ∀ (ts : List TypeId) (vs : List Value) (ds : List (DataW H)) (ps : List MemPlace), (∀ t ∈ ts, P.readableRec t = true ∧ t < P.types.size) → DataW.TrodAll enc P W 0 (fun _ => true) true ts vs ds ps →
      (∀ x ∈ ps, x.block < W.heap.size ∧ sp x.block = true) → DataW.TrodAll enc P W' 0 sp true ts vs ds ps
  | [], vs, ds, ps, _, h, _ => by
    obtain ⟨rfl, rfl, rfl⟩ := trodAll_nil h
    exact trodAll_mk0
  | t :: ts, vs, ds, ps, hp, h, hlt => by
    obtain ⟨v, vs', d, ds', p, q, rfl, rfl, rfl, h1, h2⟩ := trodAll_cons h
    obtain ⟨h3, h4⟩ := hp t (by simp)
    exact trodAll_cons_mk (WideElems.Trod_stays hl h3 h4 h1 (fun x hx => hb.same (hlt x (by simp [hx])).1) (fun x hx => (hlt x (by simp [hx])).2))
      (trodAll_stays hl hb ts vs' ds' q (fun t ht => hp t (by simp [ht])) h2 (fun x hx => hlt x (by simp [hx])))

theorem trodAll_join {H : Type} {enc : TypeId × Value → H} {P : Program} {W : World} {base : Nat} {sp : Nat → Bool} {held : Bool} :
    ∀ {ts : List TypeId} {vs : List Value} {ds : List (DataW H)} {ps : List MemPlace} {ts' : List TypeId} {vs' : List Value} {ds' : List (DataW H)} {ps' : List MemPlace},
      DataW.TrodAll enc P W base sp held ts vs ds ps → DataW.TrodAll enc P W base sp held ts' vs' ds' ps' → DataW.TrodAll enc P W base sp held (ts ++ ts') (vs ++ vs') (ds ++ ds') (ps ++ ps')
  | [], _, _, _, _, _, _, _, h, h' => by
    obtain ⟨rfl, rfl, rfl⟩ := trodAll_nil h
    exact h'
  | t :: ts, _, _, _, _, _, _, _, h, h' => by
    obtain ⟨v, vs', d, ds', p, q, rfl, rfl, rfl, h1, h2⟩ := trodAll_cons h
    have := trodAll_cons_mk h1 (trodAll_join h2 h')
    simpa [List.append_assoc] using this

theorem post_below {H : Type} {enc : TypeId × Value → H} {P : Program} {fn : Func} {s : ChangeSpec} {apart fresh handsOn again : Bool} {W W' : World} {args : Array Value} {ds gs : List (DataW H)} {before : List MemPlace} {tb : TypeId}
    (hl : laidOutB P = true) (hvars : s.vars = []) (hr : fn.resultTypes = #[tb]) (hb : P.underlying tb = some .bool) (hp : ∀ t ∈ fn.params.toList, P.readableRec t = true ∧ t < P.types.size)
    (hW : DataW.Whole enc P fn.params.toList s.vars apart W args.toList ds gs before) (hs : s.fn H (ds ++ gs) = { results := [.lit (.bool true)], args := ds }) (hbel : Go.RowKit.Below W.heap.size W W') :
    s.post enc P fn apart fresh handsOn again W args (.bool true) W' := by
  have hlt : ∀ x ∈ before, x.block < W.heap.size := fun x hx => by simpa using hW.lt x hx
  have hW0 := hW
  obtain ⟨p, q, hA, hV, rfl, hfz, hnd⟩ := hW
  rw [hvars] at hV
  have hV0 := hV
  obtain ⟨rfl, rfl⟩ := trodVars_none hV
  simp only [List.append_nil] at hlt hfz hnd hW0 hs
  have hres : ∀ (b : Nat) (sp : Nat → Bool) (hd : Bool), DataW.TrodAll enc P W' b sp hd fn.resultTypes.toList ((Value.bool true).resultList fn.resultTypes.size) [.lit (.bool true)] [] := fun b sp hd => by
    rw [hr]
    exact trodAll_mk1 (shut_bool hb true)
  have hvs : ∀ sp : Nat → Bool, DataW.TrodVars enc P W' sp s.vars [] [] := fun sp => by rw [hvars]; rfl
  refine ⟨ds, [], p, [], p, [], by simpa using hW0, ?_, ?_, ?_, ?_, fun _ => ⟨?_, ?_⟩⟩
  · rw [List.append_nil, hs]; exact hres _ _ _
  · rw [List.append_nil, hs]
    exact trodAll_stays hl hbel _ _ _ _ hp hA fun x hx => ⟨hlt x hx, by simpa using hlt x hx⟩
  · rw [List.append_nil, hs]; exact hvs _
  · exact hbel.frame _
  · intro j t r hj hv
    rw [hr] at hj hv
    match j, hj, hv with
    | 0, hj, hv =>
      simp only [List.getElem?_toArray, List.getElem?_cons_zero, Option.some.injEq] at hj
      have hv' : r = .bool true := by
        have : (some (Value.bool true)) = some r := hv
        cases this; rfl
      subst hj; subst hv'
      exact okWide_bool_mk hb true
    | j + 1, hj, hv => simp at hj
  · have hA' := trodAll_stays (sp := fun _ => true) hl hbel _ _ _ _ hp hA fun x hx => ⟨hlt x hx, rfl⟩
    refine ⟨_, [], [] ++ p, ⟨[] ++ p, [], trodAll_join (hres 0 _ true) hA', hvs _, by simp, ?_, ?_⟩, ?_⟩
    · intro b off hm
      have hm' : MemPlace.cell b off ∈ p := by simpa using hm
      exact (hbel.frozen (p := ⟨b, off, none⟩) (hlt _ hm')).trans (hfz b off hm')
    · intro ha
      simpa using hnd ha
    · intro x hx _
      simpa using hx

/-! ### readings of slices -/

theorem cells_slice {P : Program} {w : World} {r : Reach} {b : Nat} {t e : TypeId} {v : Value} (ht : P.underlying t = some (.slice e)) (hv : Value.okWide P w r b t v) : v.cells.toList = [v] := by
  cases v with
  | agg cs => simp [Value.okWide, ht, Cell.okWide, Cell.ok] at hv
  | _ => rfl
theorem cells_struct {P : Program} {w : World} {r : Reach} {b : Nat} {t : TypeId} {fs : Array Field} {v : Value} (ht : P.underlying t = some (.struct fs)) (hv : Value.okWide P w r b t v) : ∃ cs, v = .agg cs := by
  simp only [Value.okWide, ht] at hv
  obtain ⟨cs, rfl, _⟩ := hv
  exact ⟨cs, rfl⟩

/-- a reading's cells are an abstract value's -/
def Reads (W : World) (a : AV) (cs : List Value) : Prop := cs.length = a.cells.length ∧ ∀ (j : Nat) x u, a.cells[j]? = some x → cs[j]? = some u → Rel (base0 W) x u ∧ u.oneCell' = true

theorem cell_size {w : World} {a : Addr} {u : Value} (h : w.cell? a = some u) : a.block < w.heap.size ∧ a.spot = none := by
  unfold World.cell? at h
  cases hb : w.heap[a.block]? with
  | none => simp [hb] at h
  | some o =>
    rw [hb] at h
    refine ⟨(Array.getElem?_eq_some_iff.1 hb).1, ?_⟩
    cases o with
    | cells c _ _ =>
      simp only at h
      split at h
      · cases h
      · rename_i hs
        cases hsp : a.spot with
        | none => rfl
        | some q => rw [hsp] at hs; simp at hs
    | _ => cases h

theorem read_slice {H : Type} {enc : TypeId × Value → H} {P : Program} {W : World} {t e : TypeId} {s fuel : Nat} {cs : List Value} {y : DataW H × List MemPlace} {X : Type} {val : X → AV} {Good : X → Prop}
    (ht : P.underlying t = some (.slice e)) (hs : P.cellsOf e = s) (hpos : 0 < s) (hval : ∀ x, (val x).cells.length = s)
    (rd : ∀ n cs y, n < fuel → DataW.trod enc P W 0 (fun _ => true) true n e cs = some y → ∃ x : X, Good x ∧ Reads W (val x) cs)
    (h : DataW.trod enc P W 0 (fun _ => true) true fuel t cs = some y) : ∃ (xs : List X) (u : Value), (∀ x ∈ xs, Good x) ∧ cs = [u] ∧ u.oneCell' = true ∧ Rel (base0 W) (.sl s (xs.map val) none) u := by
  rcases DataW.trod_slice ht h with ⟨rfl, _⟩ | ⟨a, len, cap, elems, rest, n, rfl, rfl, _, _, hlc, hcm, hlen, hel, hsp, _⟩
  · exact ⟨[], _, (by simp), rfl, rfl, .slnil s none fun b hb => by cases hb⟩
  · have each : ∀ i, i < len → ∃ x : X, Good x ∧ ∃ cs, W.cells? 0 (a.add (i * s)) s = some cs ∧ Reads W (val x) cs := by
      intro i hi
      have h1 := hel i hi
      rw [List.getElem?_eq_getElem (by omega), hs, Option.bind_eq_some_iff] at h1
      obtain ⟨cs, h2, h3⟩ := h1
      obtain ⟨x, hx1, hx2⟩ := rd n cs _ (Nat.lt_succ_self n) h3
      exact ⟨x, hx1, cs, h2, hx2⟩
    obtain ⟨xs, hxl, hxs⟩ : ∃ xs : List X, xs.length = len ∧ ∀ i (hi : i < xs.length), Good xs[i] ∧ ∃ cs, W.cells? 0 (a.add (i * s)) s = some cs ∧ Reads W (val xs[i]) cs := by
      have : ∀ m, m ≤ len → ∃ xs : List X, xs.length = m ∧ ∀ i (hi : i < xs.length), Good xs[i] ∧ ∃ cs, W.cells? 0 (a.add (i * s)) s = some cs ∧ Reads W (val xs[i]) cs := by
        intro m
        induction m with
        | zero => exact fun _ => ⟨[], rfl, fun i hi => by simp at hi⟩
        | succ m ih =>
          intro hm
          obtain ⟨xs, hl, hx⟩ := ih (by omega)
          obtain ⟨x, hg, hr⟩ := each m (by omega)
          refine ⟨xs ++ [x], by simp [hl], fun i hi => ?_⟩
          by_cases hi' : i < xs.length
          · rw [List.getElem_append_left hi']; exact hx i hi'
          · have e : i = m := by simp at hi; omega
            subst e
            have hxe : (xs ++ [x])[i] = x := by simp [← hl]
            rw [hxe]
            exact ⟨hg, hr⟩
      exact this len (Nat.le_refl _)
    have hgood : ∀ x ∈ xs, Good x := fun x hx => by
      obtain ⟨i, hi, rfl⟩ := List.getElem_of_mem hx
      exact (hxs i hi).1
    by_cases hcap : cap = 0
    · have hl0 : len = 0 := by omega
      subst hcap; subst hl0
      have : xs = [] := List.length_eq_zero_iff.1 hxl
      subst this
      exact ⟨[], _, (by simp), rfl, rfl, .slzero s none a fun b hb => by cases hb⟩
    · have hspot : a.spot = none := by
        have key : W.cells? 0 (a.add (0 * s)) s ≠ none → a.spot = none := by
          intro hk
          cases hc : W.cells? 0 (a.add (0 * s)) s with
          | none => exact absurd hc hk
          | some cs =>
            obtain ⟨_, hl, hcell⟩ := World.cells?_some hc
            have := hcell 0 hpos
            rw [List.getElem?_eq_getElem (by omega)] at this
            have := (cell_size this).2
            simpa [Addr.add] using this
        by_cases hl : 0 < len
        · refine key fun hn => ?_
          have := hel 0 hl
          rw [hs, hn, List.getElem?_eq_getElem (by omega)] at this
          simp at this
        · obtain ⟨hrl, hr⟩ := hsp rfl
          refine key fun hn => ?_
          have := hr 0 (by omega)
          rw [show len + 0 = 0 by omega, hs, hn, List.getElem?_eq_getElem (by omega)] at this
          simp at this
      have ha : a = ⟨a.block, a.off, none⟩ := by cases a; simp only at hspot; subst hspot; rfl
      have hvs : ∀ x ∈ xs.map val, x.cells.length = s := fun x hx => by
        obtain ⟨z, _, rfl⟩ := List.mem_map.1 hx
        exact hval z
      have hflat : ∀ (j : Nat) (v : AV), (flat (xs.map val))[j]? = some v → ∃ (i : Nat) (hi : i < xs.length) (k : Nat), k < s ∧ j = i * s + k ∧ (val xs[i]).cells[k]? = some v := by
        intro j v hj
        have hlt := lt_of_get hj
        rw [flat_length hvs, List.length_map] at hlt
        have hi : j / s < xs.length := by rw [Nat.div_lt_iff_lt_mul hpos]; exact hlt
        have hdm := Nat.div_add_mod j s
        have hml := Nat.mod_lt j hpos
        refine ⟨j / s, hi, j % s, hml, by rw [Nat.mul_comm]; exact hdm.symm, ?_⟩
        obtain ⟨v', hv'⟩ : ∃ v', (val (xs[j / s]'hi)).cells[j % s]? = some v' := ⟨_, List.getElem?_eq_getElem (by rw [hval]; exact hml)⟩
        have := flat_get hvs (k := j / s) (x := val (xs[j / s]'hi)) (by rw [List.getElem?_map, List.getElem?_eq_getElem hi]; rfl) hv'
        rw [show j / s * s + j % s = j by rw [Nat.mul_comm]; exact hdm, hj] at this
        rw [hv', this]
      have hcell : ∀ (j : Nat) (v : AV), (flat (xs.map val))[j]? = some v → ∃ u, W.cell? ⟨a.block, a.off + j, none⟩ = some u ∧ Rel (base0 W) v u ∧ u.oneCell' = true := by
        intro j v hj
        obtain ⟨i, hi, k, hk, rfl, hv⟩ := hflat j v hj
        obtain ⟨_, cs, hcs, hrd⟩ := hxs i hi
        obtain ⟨_, hl, hc⟩ := World.cells?_some hcs
        obtain ⟨u, hu⟩ : ∃ u, cs[k]? = some u := ⟨_, List.getElem?_eq_getElem (by omega)⟩
        have h1 := hc k hk
        rw [hu] at h1
        obtain ⟨h2, h3⟩ := hrd.2 k v u hv hu
        refine ⟨u, ?_, h2, h3⟩
        have e : (a.add (i * s)).add k = ⟨a.block, a.off + (i * s + k), none⟩ := by
          rw [ha, addr_add, addr_add, Nat.add_assoc]
        rw [← e]
        exact h1
      refine ⟨xs, _, hgood, rfl, rfl, ?_⟩
      have hsl := Rel.sl (c := base0 W) s (xs.map val) none a.block a.off cap (fun j => (W.cell? ⟨a.block, a.off + j, none⟩).getD undef) hvs (by rw [List.length_map]; omega) hcm
        (fun j v hj => by
          obtain ⟨u, h1, h2, h3⟩ := hcell j v hj
          rw [h1]
          exact ⟨⟨h1, prot_base0 (cell_size h1).1⟩, h3⟩)
        (fun j v hj => by
          obtain ⟨u, h1, h2, h3⟩ := hcell j v hj
          rw [h1]
          exact h2)
        (fun b hb => by cases hb)
      rw [List.length_map, hxl, ← ha] at hsl
      exact hsl

theorem relL_nil (c : Cx) : RelL c [] #[] := ⟨rfl, fun j a u h => by simp at h⟩
theorem relL_cons {c : Cx} {a : AV} {as : List AV} {u : Value} {us : List Value} (h : Rel c a u) (hs : RelL c as us.toArray) : RelL c (a :: as) (u :: us).toArray := by
  refine ⟨by have := hs.1; simp at this ⊢; exact this, fun j x v hx hv => ?_⟩
  cases j with
  | zero => simp at hx hv; subst hx; subst hv; exact h
  | succ j => exact hs.2 j x v (by simpa using hx) (by simpa using hv)
theorem rel_reads {W : World} {l : List AV} {cs : Array Value} (h : Reads W (.agg l) cs.toList) : Rel (base0 W) (.agg l) (.agg cs) :=
  .agg l cs (by have := h.1; simpa [AV.cells] using this) fun j a u ha hu => (h.2 j a u ha (by simpa using hu)).1

/-- an argument that is a struct -/
theorem open_agg {H : Type} {enc : TypeId × Value → H} {P : Program} {W : World} {r : Reach} {b0 : Nat} {t : TypeId} {fs : Array Field} {v : Value} {d : DataW H} {ps : List MemPlace} {X : Type} {val : X → AV} {Good : X → Prop}
    (ht : P.underlying t = some (.struct fs)) (hv : Value.okWide P W r b0 t v) (hd : DataW.Trod enc P W 0 (fun _ => true) true t v d ps) (hval : ∀ x, ∃ l, val x = .agg l)
    (rd : ∀ fuel cs y, DataW.trod enc P W 0 (fun _ => true) true fuel t cs = some y → ∃ x : X, Good x ∧ Reads W (val x) cs) : ∃ x : X, Good x ∧ Rel (base0 W) (val x) v := by
  obtain ⟨cs, rfl⟩ := cells_struct ht hv
  obtain ⟨fuel, hf⟩ := hd
  obtain ⟨x, hg, hr⟩ := rd fuel _ _ hf
  obtain ⟨l, hl⟩ := hval x
  refine ⟨x, hg, ?_⟩
  rw [hl] at hr ⊢
  exact rel_reads hr

/-- an argument that is a slice -/
theorem open_rows {H : Type} {enc : TypeId × Value → H} {P : Program} {W : World} {r : Reach} {b0 : Nat} {t e : TypeId} {s : Nat} {v : Value} {d : DataW H} {ps : List MemPlace} {X : Type} {val : X → AV} {Good : X → Prop}
    (ht : P.underlying t = some (.slice e)) (hs : P.cellsOf e = s) (hpos : 0 < s) (hval : ∀ x, (val x).cells.length = s) (hv : Value.okWide P W r b0 t v) (hd : DataW.Trod enc P W 0 (fun _ => true) true t v d ps)
    (rd : ∀ fuel cs y, DataW.trod enc P W 0 (fun _ => true) true fuel e cs = some y → ∃ x : X, Good x ∧ Reads W (val x) cs) : ∃ xs : List X, (∀ x ∈ xs, Good x) ∧ Rel (base0 W) (.sl s (xs.map val) none) v := by
  obtain ⟨fuel, hf⟩ := hd
  rw [cells_slice ht hv] at hf
  obtain ⟨xs, u, h1, h2, _, h3⟩ := read_slice ht hs hpos hval (fun n cs y _ h => rd n cs y h) hf
  cases h2
  exact ⟨xs, h1, h3⟩

theorem len_succ {α : Type} {n : Nat} : ∀ {l : List α}, l.length = n + 1 → ∃ a l', l = a :: l' ∧ l'.length = n
  | a :: l, h => ⟨a, l, rfl, by simpa using h⟩
theorem len_nil {α : Type} {l : List α} (h : l.length = 0) : l = [] := List.length_eq_zero_iff.1 h
theorem len_four {α : Type} {l : List α} (h : l.length = 4) : ∃ a b c d, l = [a, b, c, d] := by
  obtain ⟨a, l1, rfl, h1⟩ := len_succ h
  obtain ⟨b, l2, rfl, h2⟩ := len_succ h1
  obtain ⟨c, l3, rfl, h3⟩ := len_succ h2
  obtain ⟨d, l4, rfl, h4⟩ := len_succ h3
  obtain rfl := len_nil h4
  exact ⟨a, b, c, d, rfl⟩

end Go.Proofs.YthkiabcdkhpheaaDoor.Ab
