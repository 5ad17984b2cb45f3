/-
  A row's reading of a term is a term.
-/
import Derived.Test.YtplnbmldkgcedaaAbWp
import Derived.Test.YtplnbmldkgcedaaAbX
set_option linter.unusedVariables false
set_option maxHeartbeats 4000000
namespace Go.Proofs.Ytplnbmldkgcedaa.Ab
open Go.Proofs

theorem i64_wf {n : Int} (h : (Lit.int .i64 n).wf = true) : i64 n := by
  simpa [Lit.wf, IntKind.min, IntKind.max, IntKind.signed, IntKind.bits, i64] using h

theorem T.av_eq (t : T) : t.av = .agg [.v (.int .i64 t.kind), .v (.int .i64 t.int), .v (.string t.name), .sl 4 (avs t.args) none] := by cases t; simp only [T.av, T.kind, T.int, T.name, T.args]

theorem oks_of : ∀ (l : List T), (∀ t ∈ l, t.ok) → oks l
  | [], _ => trivial
  | t :: l, h => ⟨h t (by simp), oks_of l fun x hx => h x (by simp [hx])⟩

theorem read_term {H : Type} (enc : TypeId × Value → H) (W : World) : ∀ (fuel : Nat) (cs : List Value) (y : DataW H × List MemPlace), DataW.trod enc Try.prog W 0 (fun _ => true) true fuel 24 cs = some y → ∃ t : T, t.ok ∧ Reads W t.av cs := by
  intro fuel
  induction fuel using Nat.strongRecOn with
  | _ fuel ih =>
    intro cs y h
    obtain ⟨xs, n, hn, _, hl, hlen, hf⟩ := DataW.trod_struct Try.underlying24 h
    have h4 : Try.prog.cellsOf 24 = 4 := by kernel_rfl
    have hi1 : Try.prog.cellsOf 3 = 1 := by kernel_rfl
    have hs1 : Try.prog.cellsOf 9 = 1 := by kernel_rfl
    have hl1 : Try.prog.cellsOf 22 = 1 := by kernel_rfl
    rw [h4] at hl
    have hlen4 : xs.length = 4 := hlen
    obtain ⟨y0, y1, y2, y3, rfl⟩ := len_four hlen4
    obtain ⟨c0, c1, c2, c3, rfl⟩ := len_four hl
    have g0 : DataW.trod enc Try.prog W 0 (fun _ => true) true n 3 (([c0, c1, c2, c3].drop 0).take (Try.prog.cellsOf 3)) = some y0 := hf 0 _ rfl
    have g1 : DataW.trod enc Try.prog W 0 (fun _ => true) true n 3 (([c0, c1, c2, c3].drop 1).take (Try.prog.cellsOf 3)) = some y1 := hf 1 _ rfl
    have g2 : DataW.trod enc Try.prog W 0 (fun _ => true) true n 9 (([c0, c1, c2, c3].drop 2).take (Try.prog.cellsOf 9)) = some y2 := hf 2 _ rfl
    have g3 : DataW.trod enc Try.prog W 0 (fun _ => true) true n 22 (([c0, c1, c2, c3].drop 3).take (Try.prog.cellsOf 22)) = some y3 := hf 3 _ rfl
    clear hf
    rw [hi1] at g0 g1
    rw [hs1] at g2
    rw [hl1] at g3
    simp only [List.drop_zero, List.drop_succ_cons, List.take_succ_cons, List.take_zero] at g0 g1 g2 g3
    obtain ⟨k, e0, _, w0⟩ := DataW.trod_int Try.underlying3 g0
    obtain ⟨i, e1, _, w1⟩ := DataW.trod_int Try.underlying3 g1
    obtain ⟨s, e2, _, w2⟩ := DataW.trod_string Try.underlying9 g2
    obtain ⟨l, u, hg, e3, hu, hrel⟩ := read_slice (X := T) (val := T.av) (Good := T.ok) (s := 4) Try.underlying22 h4 (by omega) (fun t => by rw [T.av_cells]; rfl) (fun m cs y hm hy => ih m (by omega) cs y hy) g3
    cases e0; cases e1; cases e2; cases e3
    refine ⟨.mk k i s l, ?_, ?_⟩
    · simp only [T.ok]
      exact ⟨i64_wf w0, i64_wf w1, by simp only [maxLen] at w2; omega, oks_of l hg⟩
    · rw [← avs_map] at hrel
      refine ⟨by rw [T.av_cells]; rfl, fun j x v hx hv => ?_⟩
      rw [T.av_cells] at hx
      simp only [T.kind, T.int, T.name, T.args] at hx
      match j, hx, hv with
      | 0, hx, hv => simp at hx hv; subst hx; subst hv; exact ⟨.v _, rfl⟩
      | 1, hx, hv => simp at hx hv; subst hx; subst hv; exact ⟨.v _, rfl⟩
      | 2, hx, hv => simp at hx hv; subst hx; subst hv; exact ⟨.v _, rfl⟩
      | 3, hx, hv => simp at hx hv; subst hx; subst hv; exact ⟨hrel, hu⟩
      | j + 4, hx, hv => simp at hx
end Go.Proofs.Ytplnbmldkgcedaa.Ab
