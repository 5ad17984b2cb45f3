/-
  A row's reading of an entry is an entry.
-/
import Derived.Test.YtdjkaapmaonegaaAbU
import Derived.Test.YtdjkaapmaonegaaAbVe
import Derived.Test.YtdjkaapmaonegaaAbX
set_option linter.unusedVariables false
set_option maxHeartbeats 4000000
namespace Go.Proofs.Ytdjkaapmaonegaa.Ab
open Go.Proofs

theorem rel_sl_len {c : Cx} {s : Nat} {xs : List AV} {own : Option Nat} {u : Value} (h : Rel c (.sl s xs own) u) : xs.length ≤ 9223372036854775807 := by
  cases h with
  | slnil => exact Nat.zero_le _
  | slzero => exact Nat.zero_le _
  | sl _ _ _ B o cap f hs hcap hmax hc hr ht => simp only [maxLen] at hmax; omega

def F.good (f : F) : Prop := f.ids.length ≤ 9223372036854775807
theorem fits_of {l : List F} (h : ∀ f ∈ l, f.good) : fits l := h

theorem len_two {α : Type} {l : List α} (h : l.length = 2) : ∃ a b, l = [a, b] := by
  obtain ⟨a, l1, rfl, h1⟩ := len_succ h
  obtain ⟨b, l2, rfl, h2⟩ := len_succ h1
  obtain rfl := len_nil h2
  exact ⟨a, b, rfl⟩

theorem read_int {H : Type} (enc : TypeId × Value → H) (W : World) (fuel : Nat) (cs : List Value) (y : DataW H × List MemPlace) (h : DataW.trod enc Try.prog W 0 (fun _ => true) true fuel 3 cs = some y) : ∃ n : Int, True ∧ Reads W (.v (.int .i64 n)) cs := by
  obtain ⟨k, e0, _, w0⟩ := DataW.trod_int Try.underlying3 h
  subst e0
  refine ⟨k, trivial, rfl, fun j x v hx hv => ?_⟩
  cases j with
  | zero =>
    simp only [AV.cells, List.getElem?_cons_zero, Option.some.injEq] at hx hv
    subst hx; subst hv
    exact ⟨.v _, rfl⟩
  | succ j => simp [AV.cells] at hx

theorem read_F {H : Type} (enc : TypeId × Value → H) (W : World) (fuel : Nat) (cs : List Value) (y : DataW H × List MemPlace) (h : DataW.trod enc Try.prog W 0 (fun _ => true) true fuel 27 cs = some y) : ∃ p : F, p.good ∧ Reads W p.av cs := by
  obtain ⟨xs, fu, hfu, _, hl, hlen, hf⟩ := DataW.trod_struct Try.underlying27 h
  have hC : Try.prog.cellsOf 27 = 2 := by kernel_rfl
  rw [hC] at hl
  have hlenN : xs.length = 2 := hlen
  obtain ⟨y0, y1, rfl⟩ := len_two hlenN
  obtain ⟨c0, c1, rfl⟩ := len_two hl
  have g0 : DataW.trod enc Try.prog W 0 (fun _ => true) true fu 3 (([c0, c1].drop 0).take (Try.prog.cellsOf 3)) = some y0 := hf 0 _ rfl
  rw [show Try.prog.cellsOf 3 = 1 by kernel_rfl] at g0
  have g1 : DataW.trod enc Try.prog W 0 (fun _ => true) true fu 25 (([c0, c1].drop 1).take (Try.prog.cellsOf 25)) = some y1 := hf 1 _ rfl
  rw [show Try.prog.cellsOf 25 = 1 by kernel_rfl] at g1
  clear hf
  simp only [List.drop_zero, List.drop_succ_cons, List.take_succ_cons, List.take_zero] at g0 g1
  obtain ⟨n, e0, _, w0⟩ := DataW.trod_int Try.underlying3 g0
  obtain ⟨l, u1, hg1, e1, hu1, hr1⟩ := read_slice (X := Int) (val := fun n => .v (.int .i64 n)) (Good := fun _ => True) (s := 1) Try.underlying25 (by kernel_rfl) (by omega) (fun t => rfl) (fun m cs y _ hy => read_int enc W m cs y hy) g1
  cases e0; cases e1
  have hlen := rel_sl_len hr1
  rw [List.length_map] at hlen
  refine ⟨⟨n, l⟩, hlen, rfl, fun j x v hx hv => ?_⟩
  rw [F.av_cells] at hx
  match j, hx, hv with
  | 0, hx, hv => simp at hx hv; subst hx; subst hv; exact ⟨.v _, rfl⟩
  | 1, hx, hv => simp at hx hv; subst hx; subst hv; exact ⟨hr1, hu1⟩
  | j + 2, hx, hv => simp at hx
end Go.Proofs.Ytdjkaapmaonegaa.Ab
