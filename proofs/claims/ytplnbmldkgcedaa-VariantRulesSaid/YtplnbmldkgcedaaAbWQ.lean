/-
  Contracts of functions, and laws of terms.
-/
import Derived.Test.YtplnbmldkgcedaaAbWu
import Derived.Test.YtplnbmldkgcedaaAbWN
set_option linter.unusedVariables false
set_option maxHeartbeats 4000000
set_option linter.unusedSimpArgs false
namespace Go.Proofs.Ytplnbmldkgcedaa.Ab
open Go.Proofs

theorem len_two {α : Type} {l : List α} (h : l.length = 2) : ∃ a b, l = [a, b] := by
  obtain ⟨a, l1, rfl, h1⟩ := len_succ h
  obtain ⟨b, l2, rfl, h2⟩ := len_succ h1
  obtain rfl := len_nil h2
  exact ⟨a, b, rfl⟩
theorem len_three {α : Type} {l : List α} (h : l.length = 3) : ∃ a b c, l = [a, b, c] := by
  obtain ⟨a, l1, rfl, h1⟩ := len_succ h
  obtain ⟨b, c, rfl⟩ := len_two h1
  exact ⟨a, b, c, rfl⟩
theorem len_six {α : Type} {l : List α} (h : l.length = 6) : ∃ a b c d e f, l = [a, b, c, d, e, f] := by
  obtain ⟨a, l1, rfl, h1⟩ := len_succ h
  obtain ⟨b, l2, rfl, h2⟩ := len_succ h1
  obtain ⟨c, d, e, f, rfl⟩ := len_four h2
  exact ⟨a, b, c, d, e, f, rfl⟩

theorem read_Atom {H : Type} (enc : TypeId × Value → H) (W : World) (fuel : Nat) (cs : List Value) (y : DataW H × List MemPlace) (h : DataW.trod enc Try.prog W 0 (fun _ => true) true fuel 82 cs = some y) : ∃ p : Pt, p.ok ∧ Reads W (avA p) cs := by
  obtain ⟨xs, fu, hfu, _, hl, hlen, hf⟩ := DataW.trod_struct Try.underlying82 h
  have hC : Try.prog.cellsOf 82 = 2 := by kernel_rfl
  rw [hC] at hl
  have hlenN : xs.length = 2 := hlen
  obtain ⟨y0, y1, rfl⟩ := len_two hlenN
  obtain ⟨c0, c1, rfl⟩ := len_two hl
  have g0 : DataW.trod enc Try.prog W 0 (fun _ => true) true fu 9 (([c0, c1].drop 0).take (Try.prog.cellsOf 9)) = some y0 := hf 0 _ rfl
  rw [show Try.prog.cellsOf 9 = 1 by kernel_rfl] at g0
  have g1 : DataW.trod enc Try.prog W 0 (fun _ => true) true fu 22 (([c0, c1].drop 1).take (Try.prog.cellsOf 22)) = some y1 := hf 1 _ rfl
  rw [show Try.prog.cellsOf 22 = 1 by kernel_rfl] at g1
  clear hf
  simp only [List.drop_zero, List.drop_succ_cons, List.take_succ_cons, List.take_zero] at g0 g1
  obtain ⟨n, e0, _, w0⟩ := DataW.trod_string Try.underlying9 g0
  obtain ⟨l, u1, hg1, e1, hu1, hr1⟩ := read_slice (X := T) (val := T.av) (Good := T.ok) (s := 4) Try.underlying22 (by kernel_rfl) (by omega) (fun t => by rw [T.av_cells]; rfl) (fun m cs y _ hy => read_term enc W m cs y hy) g1
  rw [← avs_map] at hr1
  cases e0; cases e1
  refine ⟨⟨0, n, l⟩, ⟨by show i64 0; unfold i64; omega, w0, oks_of l hg1⟩, rfl, fun j x v hx hv => ?_⟩
  rw [avA_cells] at hx
  match j, hx, hv with
  | 0, hx, hv => simp at hx hv; subst hx; subst hv; exact ⟨.v _, rfl⟩
  | 1, hx, hv => simp at hx hv; subst hx; subst hv; exact ⟨hr1, hu1⟩
  | j + 2, hx, hv => simp at hx

theorem read_Goal {H : Type} (enc : TypeId × Value → H) (W : World) (fuel : Nat) (cs : List Value) (y : DataW H × List MemPlace) (h : DataW.trod enc Try.prog W 0 (fun _ => true) true fuel 85 cs = some y) : ∃ p : Pt, p.ok ∧ Reads W (avG p) cs := by
  obtain ⟨xs, fu, hfu, _, hl, hlen, hf⟩ := DataW.trod_struct Try.underlying85 h
  have hC : Try.prog.cellsOf 85 = 3 := by kernel_rfl
  rw [hC] at hl
  have hlenN : xs.length = 3 := hlen
  obtain ⟨y0, y1, y2, rfl⟩ := len_three hlenN
  obtain ⟨c0, c1, c2, rfl⟩ := len_three hl
  have g0 : DataW.trod enc Try.prog W 0 (fun _ => true) true fu 3 (([c0, c1, c2].drop 0).take (Try.prog.cellsOf 3)) = some y0 := hf 0 _ rfl
  rw [show Try.prog.cellsOf 3 = 1 by kernel_rfl] at g0
  have g1 : DataW.trod enc Try.prog W 0 (fun _ => true) true fu 9 (([c0, c1, c2].drop 1).take (Try.prog.cellsOf 9)) = some y1 := hf 1 _ rfl
  rw [show Try.prog.cellsOf 9 = 1 by kernel_rfl] at g1
  have g2 : DataW.trod enc Try.prog W 0 (fun _ => true) true fu 22 (([c0, c1, c2].drop 2).take (Try.prog.cellsOf 22)) = some y2 := hf 2 _ rfl
  rw [show Try.prog.cellsOf 22 = 1 by kernel_rfl] at g2
  clear hf
  simp only [List.drop_zero, List.drop_succ_cons, List.take_succ_cons, List.take_zero] at g0 g1 g2
  obtain ⟨i, e0, _, w0⟩ := DataW.trod_int Try.underlying3 g0
  obtain ⟨n, e1, _, w1⟩ := DataW.trod_string Try.underlying9 g1
  obtain ⟨l, u2, hg2, e2, hu2, hr2⟩ := read_slice (X := T) (val := T.av) (Good := T.ok) (s := 4) Try.underlying22 (by kernel_rfl) (by omega) (fun t => by rw [T.av_cells]; rfl) (fun m cs y _ hy => read_term enc W m cs y hy) g2
  rw [← avs_map] at hr2
  cases e0; cases e1; cases e2
  refine ⟨⟨i, n, l⟩, ⟨i64_wf w0, w1, oks_of l hg2⟩, rfl, fun j x v hx hv => ?_⟩
  rw [avG_cells] at hx
  match j, hx, hv with
  | 0, hx, hv => simp at hx hv; subst hx; subst hv; exact ⟨.v _, rfl⟩
  | 1, hx, hv => simp at hx hv; subst hx; subst hv; exact ⟨.v _, rfl⟩
  | 2, hx, hv => simp at hx hv; subst hx; subst hv; exact ⟨hr2, hu2⟩
  | j + 3, hx, hv => simp at hx

theorem read_rule {H : Type} (enc : TypeId × Value → H) (W : World) (fuel : Nat) (cs : List Value) (y : DataW H × List MemPlace) (h : DataW.trod enc Try.prog W 0 (fun _ => true) true fuel 44 cs = some y) : ∃ p : Rl, p.ok ∧ Reads W p.av cs := by
  obtain ⟨xs, fu, hfu, _, hl, hlen, hf⟩ := DataW.trod_struct Try.underlying44 h
  have hC : Try.prog.cellsOf 44 = 6 := by kernel_rfl
  rw [hC] at hl
  have hlenN : xs.length = 6 := hlen
  obtain ⟨y0, y1, y2, y3, y4, y5, rfl⟩ := len_six hlenN
  obtain ⟨c0, c1, c2, c3, c4, c5, rfl⟩ := len_six hl
  have g0 : DataW.trod enc Try.prog W 0 (fun _ => true) true fu 9 (([c0, c1, c2, c3, c4, c5].drop 0).take (Try.prog.cellsOf 9)) = some y0 := hf 0 _ rfl
  rw [show Try.prog.cellsOf 9 = 1 by kernel_rfl] at g0
  have g1 : DataW.trod enc Try.prog W 0 (fun _ => true) true fu 41 (([c0, c1, c2, c3, c4, c5].drop 1).take (Try.prog.cellsOf 41)) = some y1 := hf 1 _ rfl
  rw [show Try.prog.cellsOf 41 = 1 by kernel_rfl] at g1
  have g2 : DataW.trod enc Try.prog W 0 (fun _ => true) true fu 41 (([c0, c1, c2, c3, c4, c5].drop 2).take (Try.prog.cellsOf 41)) = some y2 := hf 2 _ rfl
  rw [show Try.prog.cellsOf 41 = 1 by kernel_rfl] at g2
  have g3 : DataW.trod enc Try.prog W 0 (fun _ => true) true fu 42 (([c0, c1, c2, c3, c4, c5].drop 3).take (Try.prog.cellsOf 42)) = some y3 := hf 3 _ rfl
  rw [show Try.prog.cellsOf 42 = 1 by kernel_rfl] at g3
  have g4 : DataW.trod enc Try.prog W 0 (fun _ => true) true fu 42 (([c0, c1, c2, c3, c4, c5].drop 4).take (Try.prog.cellsOf 42)) = some y4 := hf 4 _ rfl
  rw [show Try.prog.cellsOf 42 = 1 by kernel_rfl] at g4
  have g5 : DataW.trod enc Try.prog W 0 (fun _ => true) true fu 3 (([c0, c1, c2, c3, c4, c5].drop 5).take (Try.prog.cellsOf 3)) = some y5 := hf 5 _ rfl
  rw [show Try.prog.cellsOf 3 = 1 by kernel_rfl] at g5
  clear hf
  simp only [List.drop_zero, List.drop_succ_cons, List.take_succ_cons, List.take_zero] at g0 g1 g2 g3 g4 g5
  obtain ⟨nm, e0, _, w0⟩ := DataW.trod_string Try.underlying9 g0
  obtain ⟨kp, u1, hg1, e1, hu1, hr1⟩ := read_slice (X := Pt) (val := avA) (Good := Pt.ok) (s := 2) Try.underlying41 (by kernel_rfl) (by omega) (fun t => by rw [avA_cells]; rfl) (fun m cs y _ hy => read_Atom enc W m cs y hy) g1
  obtain ⟨rm, u2, hg2, e2, hu2, hr2⟩ := read_slice (X := Pt) (val := avA) (Good := Pt.ok) (s := 2) Try.underlying41 (by kernel_rfl) (by omega) (fun t => by rw [avA_cells]; rfl) (fun m cs y _ hy => read_Atom enc W m cs y hy) g2
  obtain ⟨gd, u3, hg3, e3, hu3, hr3⟩ := read_slice (X := Pt) (val := avG) (Good := Pt.ok) (s := 3) Try.underlying42 (by kernel_rfl) (by omega) (fun t => by rw [avG_cells]; rfl) (fun m cs y _ hy => read_Goal enc W m cs y hy) g3
  obtain ⟨bd, u4, hg4, e4, hu4, hr4⟩ := read_slice (X := Pt) (val := avG) (Good := Pt.ok) (s := 3) Try.underlying42 (by kernel_rfl) (by omega) (fun t => by rw [avG_cells]; rfl) (fun m cs y _ hy => read_Goal enc W m cs y hy) g4
  obtain ⟨vr, e5, _, w5⟩ := DataW.trod_int Try.underlying3 g5
  cases e0; cases e1; cases e2; cases e3; cases e4; cases e5
  refine ⟨⟨nm, kp, rm, gd, bd, vr⟩, ⟨w0, hg1, hg2, hg3, hg4, i64_wf w5⟩, rfl, fun j x v hx hv => ?_⟩
  rw [Rl.av_cells] at hx
  match j, hx, hv with
  | 0, hx, hv => simp at hx hv; subst hx; subst hv; exact ⟨.v _, rfl⟩
  | 1, hx, hv => simp at hx hv; subst hx; subst hv; exact ⟨hr1, hu1⟩
  | 2, hx, hv => simp at hx hv; subst hx; subst hv; exact ⟨hr2, hu2⟩
  | 3, hx, hv => simp at hx hv; subst hx; subst hv; exact ⟨hr3, hu3⟩
  | 4, hx, hv => simp at hx hv; subst hx; subst hv; exact ⟨hr4, hu4⟩
  | 5, hx, hv => simp at hx hv; subst hx; subst hv; exact ⟨.v _, rfl⟩
  | j + 6, hx, hv => simp at hx
end Go.Proofs.Ytplnbmldkgcedaa.Ab
