/-
  The abstract program logic: package-level variables: blocks of the world that no code writes, at known places.
-/
import Derived.Test.YthkiabcdkhpheaaDoorAbThree
import Derived.Test.YthkiabcdkhpheaaDoorAbX
import Derived.LaidSub
import Derived.Lib.LaidTab
set_option linter.unusedVariables false
set_option maxHeartbeats 4000000
namespace Go.Proofs.YthkiabcdkhpheaaDoor.Ab
open Go.RowKit

/-- a variable of the program holds these cells -/
def HasG (h : AH) (g : Nat) (cs : Array Value) : Prop := ∃ (i : Nat) (ty : TypeId) (fr : Nat × Nat), h[i]? = some (.glob g cs ty fr)
theorem HasG.app {h : AH} {g : Nat} {cs : Array Value} (H : HasG h g cs) (l : AH) : HasG (h ++ l) g cs := let ⟨i, ty, fr, e⟩ := H; ⟨i, ty, fr, hext e l⟩
theorem HasG.world {c : Cx} (hst : St c) {g : Nat} {cs : Array Value} (H : HasG c.h g cs) : ∃ ty fr, c.w.heap[g]? = some (.cells cs ty fr) :=
  let ⟨i, ty, fr, e⟩ := H; ⟨ty, fr, (hst.blocks i _ e).2⟩
theorem HasG.var {P : Program} {c : Cx} (hst : St c) {g : Nat} {cs : Array Value} (H : HasG c.h g cs) {nm : String} (hn : P.globalNamed nm = some g) : c.w.var? P nm = some cs := by
  obtain ⟨ty, fr, e⟩ := H.world hst
  simp only [World.var?, hn, Option.bind_some, e]
theorem HasG.kin {c c' : Cx} (hev : Ev c c') {g : Nat} {cs : Array Value} (H : HasG c.h g cs) : HasG c'.h g cs := by
  obtain ⟨i, ty, fr, e⟩ := H
  obtain ⟨b', hb, hk⟩ := hev.kin i _ e
  simp only [Kin] at hk
  obtain ⟨rfl, _⟩ := hk
  exact ⟨i, ty, fr, hb⟩

/-- the base: nothing is owned but the variables named -/
structure GV where
  g : Nat
  cs : Array Value
  ty : TypeId
  fr : Nat × Nat
def GV.blk (x : GV) : AB := .glob x.g x.cs x.ty x.fr
def baseG (W : World) (gs : List GV) : Cx := ⟨fun id => (gs[id]?).map (·.g), gs.map GV.blk, W⟩
theorem baseG_get {W : World} {gs : List GV} {id : Nat} {b : AB} (h : (baseG W gs).h[id]? = some b) : ∃ x, gs[id]? = some x ∧ b = x.blk ∧ (baseG W gs).ρ id = some x.g := by
  simp only [baseG, List.getElem?_map, Option.map_eq_some_iff] at h ⊢
  obtain ⟨x, hx, rfl⟩ := h
  exact ⟨x, hx, rfl, x, hx, rfl⟩
theorem nodup_inj {l : List Nat} (hn : l.Nodup) {i j a : Nat} (hi : l[i]? = some a) (hj : l[j]? = some a) : i = j := by
  have hp := List.pairwise_iff_getElem.1 hn
  obtain ⟨li, ei⟩ := List.getElem?_eq_some_iff.1 hi
  obtain ⟨lj, ej⟩ := List.getElem?_eq_some_iff.1 hj
  rcases Nat.lt_trichotomy i j with h | h | h
  · exact absurd (ei.trans ej.symm) (hp i j li lj h)
  · exact h
  · exact absurd (ej.trans ei.symm) (hp j i lj li h)
theorem st_baseG {W : World} {gs : List GV} (hw : ∀ x ∈ gs, W.heap[x.g]? = some (.cells x.cs x.ty x.fr)) (hn : (gs.map (·.g)).Nodup) : St (baseG W gs) := by
  refine ⟨fun id b h => ?_, fun i j a b B hi hj _ _ hρi hρj => ?_⟩
  · obtain ⟨x, hx, rfl, hρ⟩ := baseG_get h
    exact ⟨hρ, hw x (List.mem_of_getElem? hx)⟩
  · obtain ⟨x, hx, rfl, hρ⟩ := baseG_get hi
    obtain ⟨y, hy, rfl, hρ'⟩ := baseG_get hj
    have e : x.g = y.g := (Option.some.inj (hρ.symm.trans hρi)).trans (Option.some.inj (hρ'.symm.trans hρj)).symm
    have e1 : (gs.map (·.g))[i]? = some x.g := by rw [List.getElem?_map, hx]; rfl
    have e2 : (gs.map (·.g))[j]? = some x.g := by rw [List.getElem?_map, hy, e]; rfl
    exact nodup_inj hn e1 e2
theorem below_of_evG {W : World} {gs : List GV} {c : Cx} (hw : ∀ x ∈ gs, W.heap[x.g]? = some (.cells x.cs x.ty x.fr)) (hst : St c) (h : Ev (baseG W gs) c) : Go.RowKit.Below W.heap.size W c.w := by
  refine ⟨h.os, h.tape, h.output, h.size, fun k hk => ?_⟩
  by_cases ho : (baseG W gs).owns k
  · obtain ⟨id, b, hb, _, hρ⟩ := ho
    obtain ⟨x, hx, rfl, hρ'⟩ := baseG_get hb
    obtain rfl := Option.some.inj (hρ.symm.trans hρ')
    obtain ⟨b', hb', hk'⟩ := h.kin id _ hb
    simp only [GV.blk, Kin] at hk'
    obtain ⟨rfl, _⟩ := hk'
    rw [(hst.blocks id _ hb').2, hw x (List.mem_of_getElem? hx)]
  · exact h.frame k hk ho
theorem law_callsG {P : Program} {f : FuncId} {as : List AV} {W : World} {args : Array Value} {gs : List GV} (hw : ∀ x ∈ gs, W.heap[x.g]? = some (.cells x.cs x.ty x.fr)) (hn : (gs.map (·.g)).Nodup)
    (hc : CallW P f as (gs.map GV.blk) fun o h' => o = .ret (.v (.bool true)) ∧ h' = gs.map GV.blk) (hr : RelL (baseG W gs) as args) :
    Calls P f args W fun e W' => e = .returned (.bool true) ∧ Go.RowKit.Below W.heap.size W W' := by
  refine callsIn_wide.1 ((hc.2 Fence.wide 0 (baseG W gs) args WF.wide (st_baseG hw hn) rfl hr).mono ?_)
  rintro e w' ⟨o, c', ⟨rfl, hh⟩, hev, hst, rfl, hend⟩
  obtain ⟨x, rfl, hx⟩ := hend
  cases hx
  exact ⟨rfl, below_of_evG hw hst hev⟩

/-! what a row lists -/
theorem laid_one {P : Program} {W : World} {l : List (String × DataW Unit)} (h : laidMetH P l W) {x : String × DataW Unit} (hf : ((l.filter fun x => x.2.handleName?.isNone).filter fun y => y.1 == x.1) = [x]) : laidMet P [x] W := by
  have := (laidMetH_iff.1 h).1.filter fun y => y.1 == x.1
  rwa [hf] at this
theorem laid_var {P : Program} {W : World} {nm : String} {d : DataW Unit} (h : laidMet P [(nm, d)] W) : ∃ g t cs, P.globalNamed nm = some g ∧ (P.globals[g]?).map (·.type) = some t ∧ W.var? P nm = some cs ∧ ∃ fuel p, DataW.trod (fun _ => ()) P W 0 (fun _ => true) false fuel t cs.toList = some (d, p) := by
  obtain ⟨ps, ⟨g, t, cs, fuel, p, q, h1, h2, h3, h4, _⟩, _⟩ := h
  exact ⟨g, t, cs, h1, h2, h3, fuel, p, h4⟩
theorem var_block {P : Program} {W : World} {nm : String} {g : Nat} {cs : Array Value} (hn : P.globalNamed nm = some g) (h : W.var? P nm = some cs) : ∃ ty fr, W.heap[g]? = some (.cells cs ty fr) := by
  simp only [World.var?, hn, Option.bind_some] at h
  split at h
  · rename_i cs' ty fr e
    cases h
    exact ⟨ty, fr, e⟩
  · cases h
theorem laid_iface {P : Program} {W : World} {nm tn : String} {d : DataW Unit} {g : Nat} {t : TypeId} {ms : Array (String × TypeId)} (hn : P.globalNamed nm = some g) (hty : (P.globals[g]?).map (·.type) = some t) (hi : P.underlying t = some (.interface ms))
    (h : laidMet P [(nm, .iface tn d)] W) : ∃ u v ty fr, W.heap[g]? = some (.cells #[.iface u v] ty fr) := by
  obtain ⟨g', t', cs, h1, h2, h3, fuel, p, h4⟩ := laid_var h
  obtain rfl := Option.some.inj (hn.symm.trans h1)
  obtain rfl := Option.some.inj (hty.symm.trans h2)
  obtain ⟨_, u, v, hcs, _⟩ := iface_of_trod hi h4
  obtain ⟨ty, fr, e⟩ := var_block hn h3
  obtain rfl : cs = #[.iface u v] := by cases cs; simp_all
  exact ⟨u, v, ty, fr, e⟩
theorem laid_tab {P : Program} {W : World} {nm : String} {k : IntKind} {zs : List Int} {g : Nat} {t e : TypeId} {n : Nat}
    (hg : P.globalNamed nm = some g) (hty : (P.globals[g]?).map (·.type) = some t) (ht : P.underlying t = some (.array n e)) (he : P.underlying e = some (.int k)) (hce : P.cellsOf e = 1) (hct : P.cellsOf t = n)
    (h : laidMet P [(nm, Lib.tabData k zs)] W) : ∃ ty fr, W.heap[g]? = some (.cells (zs.map fun z => Value.int k z).toArray ty fr) :=
  var_block hg (Lib.tabIs_of_head hg hty ht he hce hct h)
end Go.Proofs.YthkiabcdkhpheaaDoor.Ab
