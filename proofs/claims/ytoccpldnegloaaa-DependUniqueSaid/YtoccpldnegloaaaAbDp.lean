/-
  A row's readings of terms, constraints, rules, programs, keys and items.
-/
import Derived.Test.YtoccpldnegloaaaAbDo
set_option linter.unusedVariables false
set_option maxHeartbeats 4000000
set_option linter.unusedSimpArgs false
namespace Go.Proofs.Ytoccpldnegloaaa.Ab
open Go.Proofs

theorem exLen {α : Type} {n : Nat} {l : List α} (h : l.length = n + 1) : ∃ a l', l = a :: l' ∧ l'.length = n := len_succ h

theorem read_Term {H : Type} (enc : TypeId × Value → H) (W : World) : ∀ (fuel : Nat) (cs : List Value) (y : DataW H × List MemPlace), DataW.trod enc Try.prog W 0 (fun _ => true) true fuel 49 cs = some y → ∃ p : T, True ∧ Reads W (T.av p) cs := by
  intro fuel
  induction fuel using Nat.strongRecOn with
  | _ fuel ih =>
  intro cs y h
  obtain ⟨xs, fu, hfu, _, hl, hlen, hf⟩ := DataW.trod_struct Try.underlying49 h
  have hC : Try.prog.cellsOf 49 = 4 := by kernel_rfl
  rw [hC] at hl
  have hlenN : xs.length = 4 := hlen
  obtain ⟨y0, l1, rfl, k1⟩ := len_succ hlenN
  obtain ⟨y1, l2, rfl, k2⟩ := len_succ k1
  obtain ⟨y2, l3, rfl, k3⟩ := len_succ k2
  obtain ⟨y3, l4, rfl, k4⟩ := len_succ k3
  obtain rfl := len_nil k4
  obtain ⟨c0, l1, rfl, k1⟩ := len_succ hl
  obtain ⟨c1, l2, rfl, k2⟩ := len_succ k1
  obtain ⟨c2, l3, rfl, k3⟩ := len_succ k2
  obtain ⟨c3, l4, rfl, k4⟩ := len_succ k3
  obtain rfl := len_nil k4
  have g0 : DataW.trod enc Try.prog W 0 (fun _ => true) true fu 3 (([c0, c1, c2, c3].drop 0).take (Try.prog.cellsOf 3)) = some y0 := hf 0 _ rfl
  rw [show Try.prog.cellsOf 3 = 1 by kernel_rfl] at g0
  have g1 : DataW.trod enc Try.prog W 0 (fun _ => true) true fu 3 (([c0, c1, c2, c3].drop 1).take (Try.prog.cellsOf 3)) = some y1 := hf 1 _ rfl
  rw [show Try.prog.cellsOf 3 = 1 by kernel_rfl] at g1
  have g2 : DataW.trod enc Try.prog W 0 (fun _ => true) true fu 9 (([c0, c1, c2, c3].drop 2).take (Try.prog.cellsOf 9)) = some y2 := hf 2 _ rfl
  rw [show Try.prog.cellsOf 9 = 1 by kernel_rfl] at g2
  have g3 : DataW.trod enc Try.prog W 0 (fun _ => true) true fu 45 (([c0, c1, c2, c3].drop 3).take (Try.prog.cellsOf 45)) = some y3 := hf 3 _ rfl
  rw [show Try.prog.cellsOf 45 = 1 by kernel_rfl] at g3
  clear hf
  simp only [List.drop_zero, List.drop_succ_cons, List.take_succ_cons, List.take_zero] at g0 g1 g2 g3
  obtain ⟨f0, e0, _, w0⟩ := DataW.trod_int Try.underlying3 g0
  obtain ⟨f1, e1, _, w1⟩ := DataW.trod_int Try.underlying3 g1
  obtain ⟨f2, e2, _, w2⟩ := DataW.trod_string Try.underlying9 g2
  obtain ⟨f3, u3, _, e3, hu3, hr3⟩ := read_slice (X := T) (val := T.av) (Good := fun _ => True) (s := 4) Try.underlying45 (by kernel_rfl) (by omega) (fun t => by rw [T.av_cells]; rfl) (fun m cs y hm hy => ih m (by omega) cs y hy) g3
  rw [← avs_map] at hr3
  cases e0
  cases e1
  cases e2
  cases e3
  refine ⟨.mk f0 f1 f2 f3, trivial, rfl, fun j x v hx hv => ?_⟩
  rw [T.av_cells] at hx
  simp only [T.kind, T.int, T.name, T.args] at hx
  match j, hx, hv with
  | 0, hx, hv => simp at hx hv; subst hx; subst hv; exact ⟨.v _, rfl⟩
  | 1, hx, hv => simp at hx hv; subst hx; subst hv; exact ⟨.v _, rfl⟩
  | 2, hx, hv => simp at hx hv; subst hx; subst hv; exact ⟨.v _, rfl⟩
  | 3, hx, hv => simp at hx hv; subst hx; subst hv; exact ⟨hr3, hu3⟩
  | j + 4, hx, hv => simp at hx

theorem read_Atom {H : Type} (enc : TypeId × Value → H) (W : World) (fuel : Nat) (cs : List Value) (y : DataW H × List MemPlace) (h : DataW.trod enc Try.prog W 0 (fun _ => true) true fuel 47 cs = some y) : ∃ p : G, True ∧ Reads W (G.atom p) cs := by
  obtain ⟨xs, fu, hfu, _, hl, hlen, hf⟩ := DataW.trod_struct Try.underlying47 h
  have hC : Try.prog.cellsOf 47 = 2 := by kernel_rfl
  rw [hC] at hl
  have hlenN : xs.length = 2 := hlen
  obtain ⟨y0, l1, rfl, k1⟩ := len_succ hlenN
  obtain ⟨y1, l2, rfl, k2⟩ := len_succ k1
  obtain rfl := len_nil k2
  obtain ⟨c0, l1, rfl, k1⟩ := len_succ hl
  obtain ⟨c1, l2, rfl, k2⟩ := len_succ k1
  obtain rfl := len_nil k2
  have g0 : DataW.trod enc Try.prog W 0 (fun _ => true) true fu 9 (([c0, c1].drop 0).take (Try.prog.cellsOf 9)) = some y0 := hf 0 _ rfl
  rw [show Try.prog.cellsOf 9 = 1 by kernel_rfl] at g0
  have g1 : DataW.trod enc Try.prog W 0 (fun _ => true) true fu 45 (([c0, c1].drop 1).take (Try.prog.cellsOf 45)) = some y1 := hf 1 _ rfl
  rw [show Try.prog.cellsOf 45 = 1 by kernel_rfl] at g1
  clear hf
  simp only [List.drop_zero, List.drop_succ_cons, List.take_succ_cons, List.take_zero] at g0 g1
  obtain ⟨f0, e0, _, w0⟩ := DataW.trod_string Try.underlying9 g0
  obtain ⟨f1, u1, _, e1, hu1, hr1⟩ := read_slice (X := T) (val := T.av) (Good := fun _ => True) (s := 4) Try.underlying45 (by kernel_rfl) (by omega) (fun t => by rw [T.av_cells]; rfl) (fun m cs y _ hy => read_Term enc W m cs y hy) g1
  rw [← avs_map] at hr1
  cases e0
  cases e1
  refine ⟨⟨0, f0, f1⟩, trivial, rfl, fun j x v hx hv => ?_⟩
  rw [atom_cells] at hx
  match j, hx, hv with
  | 0, hx, hv => simp at hx hv; subst hx; subst hv; exact ⟨.v _, rfl⟩
  | 1, hx, hv => simp at hx hv; subst hx; subst hv; exact ⟨hr1, hu1⟩
  | j + 2, hx, hv => simp at hx

theorem read_Goal {H : Type} (enc : TypeId × Value → H) (W : World) (fuel : Nat) (cs : List Value) (y : DataW H × List MemPlace) (h : DataW.trod enc Try.prog W 0 (fun _ => true) true fuel 100 cs = some y) : ∃ p : G, True ∧ Reads W (G.goal p) cs := by
  obtain ⟨xs, fu, hfu, _, hl, hlen, hf⟩ := DataW.trod_struct Try.underlying100 h
  have hC : Try.prog.cellsOf 100 = 3 := by kernel_rfl
  rw [hC] at hl
  have hlenN : xs.length = 3 := hlen
  obtain ⟨y0, l1, rfl, k1⟩ := len_succ hlenN
  obtain ⟨y1, l2, rfl, k2⟩ := len_succ k1
  obtain ⟨y2, l3, rfl, k3⟩ := len_succ k2
  obtain rfl := len_nil k3
  obtain ⟨c0, l1, rfl, k1⟩ := len_succ hl
  obtain ⟨c1, l2, rfl, k2⟩ := len_succ k1
  obtain ⟨c2, l3, rfl, k3⟩ := len_succ k2
  obtain rfl := len_nil k3
  have g0 : DataW.trod enc Try.prog W 0 (fun _ => true) true fu 3 (([c0, c1, c2].drop 0).take (Try.prog.cellsOf 3)) = some y0 := hf 0 _ rfl
  rw [show Try.prog.cellsOf 3 = 1 by kernel_rfl] at g0
  have g1 : DataW.trod enc Try.prog W 0 (fun _ => true) true fu 9 (([c0, c1, c2].drop 1).take (Try.prog.cellsOf 9)) = some y1 := hf 1 _ rfl
  rw [show Try.prog.cellsOf 9 = 1 by kernel_rfl] at g1
  have g2 : DataW.trod enc Try.prog W 0 (fun _ => true) true fu 45 (([c0, c1, c2].drop 2).take (Try.prog.cellsOf 45)) = some y2 := hf 2 _ rfl
  rw [show Try.prog.cellsOf 45 = 1 by kernel_rfl] at g2
  clear hf
  simp only [List.drop_zero, List.drop_succ_cons, List.take_succ_cons, List.take_zero] at g0 g1 g2
  obtain ⟨f0, e0, _, w0⟩ := DataW.trod_int Try.underlying3 g0
  obtain ⟨f1, e1, _, w1⟩ := DataW.trod_string Try.underlying9 g1
  obtain ⟨f2, u2, _, e2, hu2, hr2⟩ := read_slice (X := T) (val := T.av) (Good := fun _ => True) (s := 4) Try.underlying45 (by kernel_rfl) (by omega) (fun t => by rw [T.av_cells]; rfl) (fun m cs y _ hy => read_Term enc W m cs y hy) g2
  rw [← avs_map] at hr2
  cases e0
  cases e1
  cases e2
  refine ⟨⟨f0, f1, f2⟩, trivial, rfl, fun j x v hx hv => ?_⟩
  rw [goal_cells] at hx
  match j, hx, hv with
  | 0, hx, hv => simp at hx hv; subst hx; subst hv; exact ⟨.v _, rfl⟩
  | 1, hx, hv => simp at hx hv; subst hx; subst hv; exact ⟨.v _, rfl⟩
  | 2, hx, hv => simp at hx hv; subst hx; subst hv; exact ⟨hr2, hu2⟩
  | j + 3, hx, hv => simp at hx

theorem read_Rule {H : Type} (enc : TypeId × Value → H) (W : World) (fuel : Nat) (cs : List Value) (y : DataW H × List MemPlace) (h : DataW.trod enc Try.prog W 0 (fun _ => true) true fuel 36 cs = some y) : ∃ p : Rl, True ∧ Reads W (Rl.av p) cs := by
  obtain ⟨xs, fu, hfu, _, hl, hlen, hf⟩ := DataW.trod_struct Try.underlying36 h
  have hC : Try.prog.cellsOf 36 = 6 := by kernel_rfl
  rw [hC] at hl
  have hlenN : xs.length = 6 := hlen
  obtain ⟨y0, l1, rfl, k1⟩ := len_succ hlenN
  obtain ⟨y1, l2, rfl, k2⟩ := len_succ k1
  obtain ⟨y2, l3, rfl, k3⟩ := len_succ k2
  obtain ⟨y3, l4, rfl, k4⟩ := len_succ k3
  obtain ⟨y4, l5, rfl, k5⟩ := len_succ k4
  obtain ⟨y5, l6, rfl, k6⟩ := len_succ k5
  obtain rfl := len_nil k6
  obtain ⟨c0, l1, rfl, k1⟩ := len_succ hl
  obtain ⟨c1, l2, rfl, k2⟩ := len_succ k1
  obtain ⟨c2, l3, rfl, k3⟩ := len_succ k2
  obtain ⟨c3, l4, rfl, k4⟩ := len_succ k3
  obtain ⟨c4, l5, rfl, k5⟩ := len_succ k4
  obtain ⟨c5, l6, rfl, k6⟩ := len_succ k5
  obtain rfl := len_nil k6
  have g0 : DataW.trod enc Try.prog W 0 (fun _ => true) true fu 9 (([c0, c1, c2, c3, c4, c5].drop 0).take (Try.prog.cellsOf 9)) = some y0 := hf 0 _ rfl
  rw [show Try.prog.cellsOf 9 = 1 by kernel_rfl] at g0
  have g1 : DataW.trod enc Try.prog W 0 (fun _ => true) true fu 33 (([c0, c1, c2, c3, c4, c5].drop 1).take (Try.prog.cellsOf 33)) = some y1 := hf 1 _ rfl
  rw [show Try.prog.cellsOf 33 = 1 by kernel_rfl] at g1
  have g2 : DataW.trod enc Try.prog W 0 (fun _ => true) true fu 33 (([c0, c1, c2, c3, c4, c5].drop 2).take (Try.prog.cellsOf 33)) = some y2 := hf 2 _ rfl
  rw [show Try.prog.cellsOf 33 = 1 by kernel_rfl] at g2
  have g3 : DataW.trod enc Try.prog W 0 (fun _ => true) true fu 34 (([c0, c1, c2, c3, c4, c5].drop 3).take (Try.prog.cellsOf 34)) = some y3 := hf 3 _ rfl
  rw [show Try.prog.cellsOf 34 = 1 by kernel_rfl] at g3
  have g4 : DataW.trod enc Try.prog W 0 (fun _ => true) true fu 34 (([c0, c1, c2, c3, c4, c5].drop 4).take (Try.prog.cellsOf 34)) = some y4 := hf 4 _ rfl
  rw [show Try.prog.cellsOf 34 = 1 by kernel_rfl] at g4
  have g5 : DataW.trod enc Try.prog W 0 (fun _ => true) true fu 3 (([c0, c1, c2, c3, c4, c5].drop 5).take (Try.prog.cellsOf 3)) = some y5 := hf 5 _ rfl
  rw [show Try.prog.cellsOf 3 = 1 by kernel_rfl] at g5
  clear hf
  simp only [List.drop_zero, List.drop_succ_cons, List.take_succ_cons, List.take_zero] at g0 g1 g2 g3 g4 g5
  obtain ⟨f0, e0, _, w0⟩ := DataW.trod_string Try.underlying9 g0
  obtain ⟨f1, u1, _, e1, hu1, hr1⟩ := read_slice (X := G) (val := G.atom) (Good := fun _ => True) (s := 2) Try.underlying33 (by kernel_rfl) (by omega) (fun t => by rw [atom_cells]; rfl) (fun m cs y _ hy => read_Atom enc W m cs y hy) g1
  obtain ⟨f2, u2, _, e2, hu2, hr2⟩ := read_slice (X := G) (val := G.atom) (Good := fun _ => True) (s := 2) Try.underlying33 (by kernel_rfl) (by omega) (fun t => by rw [atom_cells]; rfl) (fun m cs y _ hy => read_Atom enc W m cs y hy) g2
  obtain ⟨f3, u3, _, e3, hu3, hr3⟩ := read_slice (X := G) (val := G.goal) (Good := fun _ => True) (s := 3) Try.underlying34 (by kernel_rfl) (by omega) (fun t => by rw [goal_cells]; rfl) (fun m cs y _ hy => read_Goal enc W m cs y hy) g3
  obtain ⟨f4, u4, _, e4, hu4, hr4⟩ := read_slice (X := G) (val := G.goal) (Good := fun _ => True) (s := 3) Try.underlying34 (by kernel_rfl) (by omega) (fun t => by rw [goal_cells]; rfl) (fun m cs y _ hy => read_Goal enc W m cs y hy) g4
  obtain ⟨f5, e5, _, w5⟩ := DataW.trod_int Try.underlying3 g5
  cases e0
  cases e1
  cases e2
  cases e3
  cases e4
  cases e5
  refine ⟨⟨f0, f1, f2, f3, f4, f5⟩, trivial, rfl, fun j x v hx hv => ?_⟩
  rw [Rl.cells] at hx
  match j, hx, hv with
  | 0, hx, hv => simp at hx hv; subst hx; subst hv; exact ⟨.v _, rfl⟩
  | 1, hx, hv => simp at hx hv; subst hx; subst hv; exact ⟨hr1, hu1⟩
  | 2, hx, hv => simp at hx hv; subst hx; subst hv; exact ⟨hr2, hu2⟩
  | 3, hx, hv => simp at hx hv; subst hx; subst hv; exact ⟨hr3, hu3⟩
  | 4, hx, hv => simp at hx hv; subst hx; subst hv; exact ⟨hr4, hu4⟩
  | 5, hx, hv => simp at hx hv; subst hx; subst hv; exact ⟨.v _, rfl⟩
  | j + 6, hx, hv => simp at hx

theorem read_Decl {H : Type} (enc : TypeId × Value → H) (W : World) (fuel : Nat) (cs : List Value) (y : DataW H × List MemPlace) (h : DataW.trod enc Try.prog W 0 (fun _ => true) true fuel 98 cs = some y) : ∃ p : Dc, True ∧ Reads W (Dc.av p) cs := by
  obtain ⟨xs, fu, hfu, _, hl, hlen, hf⟩ := DataW.trod_struct Try.underlying98 h
  have hC : Try.prog.cellsOf 98 = 2 := by kernel_rfl
  rw [hC] at hl
  have hlenN : xs.length = 2 := hlen
  obtain ⟨y0, l1, rfl, k1⟩ := len_succ hlenN
  obtain ⟨y1, l2, rfl, k2⟩ := len_succ k1
  obtain rfl := len_nil k2
  obtain ⟨c0, l1, rfl, k1⟩ := len_succ hl
  obtain ⟨c1, l2, rfl, k2⟩ := len_succ k1
  obtain rfl := len_nil k2
  have g0 : DataW.trod enc Try.prog W 0 (fun _ => true) true fu 9 (([c0, c1].drop 0).take (Try.prog.cellsOf 9)) = some y0 := hf 0 _ rfl
  rw [show Try.prog.cellsOf 9 = 1 by kernel_rfl] at g0
  have g1 : DataW.trod enc Try.prog W 0 (fun _ => true) true fu 3 (([c0, c1].drop 1).take (Try.prog.cellsOf 3)) = some y1 := hf 1 _ rfl
  rw [show Try.prog.cellsOf 3 = 1 by kernel_rfl] at g1
  clear hf
  simp only [List.drop_zero, List.drop_succ_cons, List.take_succ_cons, List.take_zero] at g0 g1
  obtain ⟨f0, e0, _, w0⟩ := DataW.trod_string Try.underlying9 g0
  obtain ⟨f1, e1, _, w1⟩ := DataW.trod_int Try.underlying3 g1
  cases e0
  cases e1
  refine ⟨⟨f0, f1⟩, trivial, rfl, fun j x v hx hv => ?_⟩
  rw [Dc.cells] at hx
  match j, hx, hv with
  | 0, hx, hv => simp at hx hv; subst hx; subst hv; exact ⟨.v _, rfl⟩
  | 1, hx, hv => simp at hx hv; subst hx; subst hv; exact ⟨.v _, rfl⟩
  | j + 2, hx, hv => simp at hx

theorem read_Program {H : Type} (enc : TypeId × Value → H) (W : World) (fuel : Nat) (cs : List Value) (y : DataW H × List MemPlace) (h : DataW.trod enc Try.prog W 0 (fun _ => true) true fuel 25 cs = some y) : ∃ p : Pg, True ∧ Reads W (Pg.av p) cs := by
  obtain ⟨xs, fu, hfu, _, hl, hlen, hf⟩ := DataW.trod_struct Try.underlying25 h
  have hC : Try.prog.cellsOf 25 = 2 := by kernel_rfl
  rw [hC] at hl
  have hlenN : xs.length = 2 := hlen
  obtain ⟨y0, l1, rfl, k1⟩ := len_succ hlenN
  obtain ⟨y1, l2, rfl, k2⟩ := len_succ k1
  obtain rfl := len_nil k2
  obtain ⟨c0, l1, rfl, k1⟩ := len_succ hl
  obtain ⟨c1, l2, rfl, k2⟩ := len_succ k1
  obtain rfl := len_nil k2
  have g0 : DataW.trod enc Try.prog W 0 (fun _ => true) true fu 22 (([c0, c1].drop 0).take (Try.prog.cellsOf 22)) = some y0 := hf 0 _ rfl
  rw [show Try.prog.cellsOf 22 = 1 by kernel_rfl] at g0
  have g1 : DataW.trod enc Try.prog W 0 (fun _ => true) true fu 23 (([c0, c1].drop 1).take (Try.prog.cellsOf 23)) = some y1 := hf 1 _ rfl
  rw [show Try.prog.cellsOf 23 = 1 by kernel_rfl] at g1
  clear hf
  simp only [List.drop_zero, List.drop_succ_cons, List.take_succ_cons, List.take_zero] at g0 g1
  obtain ⟨f0, u0, _, e0, hu0, hr0⟩ := read_slice (X := Dc) (val := Dc.av) (Good := fun _ => True) (s := 2) Try.underlying22 (by kernel_rfl) (by omega) (fun t => by rw [Dc.cells]; rfl) (fun m cs y _ hy => read_Decl enc W m cs y hy) g0
  obtain ⟨f1, u1, _, e1, hu1, hr1⟩ := read_slice (X := Rl) (val := Rl.av) (Good := fun _ => True) (s := 6) Try.underlying23 (by kernel_rfl) (by omega) (fun t => by rw [Rl.cells]; rfl) (fun m cs y _ hy => read_Rule enc W m cs y hy) g1
  cases e0
  cases e1
  refine ⟨⟨f0, f1⟩, trivial, rfl, fun j x v hx hv => ?_⟩
  rw [Pg.cells] at hx
  match j, hx, hv with
  | 0, hx, hv => simp at hx hv; subst hx; subst hv; exact ⟨hr0, hu0⟩
  | 1, hx, hv => simp at hx hv; subst hx; subst hv; exact ⟨hr1, hu1⟩
  | j + 2, hx, hv => simp at hx

theorem read_Key {H : Type} (enc : TypeId × Value → H) (W : World) (fuel : Nat) (cs : List Value) (y : DataW H × List MemPlace) (h : DataW.trod enc Try.prog W 0 (fun _ => true) true fuel 30 cs = some y) : ∃ p : Ky, True ∧ Reads W (Ky.av p) cs := by
  obtain ⟨xs, fu, hfu, _, hl, hlen, hf⟩ := DataW.trod_struct Try.underlying30 h
  have hC : Try.prog.cellsOf 30 = 3 := by kernel_rfl
  rw [hC] at hl
  have hlenN : xs.length = 3 := hlen
  obtain ⟨y0, l1, rfl, k1⟩ := len_succ hlenN
  obtain ⟨y1, l2, rfl, k2⟩ := len_succ k1
  obtain ⟨y2, l3, rfl, k3⟩ := len_succ k2
  obtain rfl := len_nil k3
  obtain ⟨c0, l1, rfl, k1⟩ := len_succ hl
  obtain ⟨c1, l2, rfl, k2⟩ := len_succ k1
  obtain ⟨c2, l3, rfl, k3⟩ := len_succ k2
  obtain rfl := len_nil k3
  have g0 : DataW.trod enc Try.prog W 0 (fun _ => true) true fu 9 (([c0, c1, c2].drop 0).take (Try.prog.cellsOf 9)) = some y0 := hf 0 _ rfl
  rw [show Try.prog.cellsOf 9 = 1 by kernel_rfl] at g0
  have g1 : DataW.trod enc Try.prog W 0 (fun _ => true) true fu 3 (([c0, c1, c2].drop 1).take (Try.prog.cellsOf 3)) = some y1 := hf 1 _ rfl
  rw [show Try.prog.cellsOf 3 = 1 by kernel_rfl] at g1
  have g2 : DataW.trod enc Try.prog W 0 (fun _ => true) true fu 28 (([c0, c1, c2].drop 2).take (Try.prog.cellsOf 28)) = some y2 := hf 2 _ rfl
  rw [show Try.prog.cellsOf 28 = 1 by kernel_rfl] at g2
  clear hf
  simp only [List.drop_zero, List.drop_succ_cons, List.take_succ_cons, List.take_zero] at g0 g1 g2
  obtain ⟨f0, e0, _, w0⟩ := DataW.trod_string Try.underlying9 g0
  obtain ⟨f1, e1, _, w1⟩ := DataW.trod_int Try.underlying3 g1
  obtain ⟨f2, u2, _, e2, hu2, hr2⟩ := read_slice (X := Int) (val := (fun n : Int => AV.v (.int .i64 n))) (Good := fun _ => True) (s := 1) Try.underlying28 (by kernel_rfl) (by omega) (fun t => by rw [Go.Proofs.Ytoccpldnegloaaa.Ab.icells]; rfl) (fun m cs y _ hy => read_int enc W m cs y hy) g2
  cases e0
  cases e1
  cases e2
  refine ⟨⟨f0, f1, f2⟩, trivial, rfl, fun j x v hx hv => ?_⟩
  rw [Ky.cells] at hx
  match j, hx, hv with
  | 0, hx, hv => simp at hx hv; subst hx; subst hv; exact ⟨.v _, rfl⟩
  | 1, hx, hv => simp at hx hv; subst hx; subst hv; exact ⟨.v _, rfl⟩
  | 2, hx, hv => simp at hx hv; subst hx; subst hv; exact ⟨hr2, hu2⟩
  | j + 3, hx, hv => simp at hx

theorem read_Item {H : Type} (enc : TypeId × Value → H) (W : World) (fuel : Nat) (cs : List Value) (y : DataW H × List MemPlace) (h : DataW.trod enc Try.prog W 0 (fun _ => true) true fuel 51 cs = some y) : ∃ p : It, True ∧ Reads W (It.av p) cs := by
  obtain ⟨xs, fu, hfu, _, hl, hlen, hf⟩ := DataW.trod_struct Try.underlying51 h
  have hC : Try.prog.cellsOf 51 = 3 := by kernel_rfl
  rw [hC] at hl
  have hlenN : xs.length = 2 := hlen
  obtain ⟨y0, l1, rfl, k1⟩ := len_succ hlenN
  obtain ⟨y1, l2, rfl, k2⟩ := len_succ k1
  obtain rfl := len_nil k2
  obtain ⟨c0, l1, rfl, k1⟩ := len_succ hl
  obtain ⟨c1, l2, rfl, k2⟩ := len_succ k1
  obtain ⟨c2, l3, rfl, k3⟩ := len_succ k2
  obtain rfl := len_nil k3
  have g0 : DataW.trod enc Try.prog W 0 (fun _ => true) true fu 3 (([c0, c1, c2].drop 0).take (Try.prog.cellsOf 3)) = some y0 := hf 0 _ rfl
  rw [show Try.prog.cellsOf 3 = 1 by kernel_rfl] at g0
  have g1 : DataW.trod enc Try.prog W 0 (fun _ => true) true fu 47 (([c0, c1, c2].drop 1).take (Try.prog.cellsOf 47)) = some y1 := hf 1 _ rfl
  rw [show Try.prog.cellsOf 47 = 2 by kernel_rfl] at g1
  clear hf
  simp only [List.drop_zero, List.drop_succ_cons, List.take_succ_cons, List.take_zero] at g0 g1
  obtain ⟨f0, e0, _, w0⟩ := DataW.trod_int Try.underlying3 g0
  obtain ⟨f1, _, hr1⟩ := read_Atom enc W _ _ _ g1
  cases e0
  refine ⟨⟨f0, f1⟩, trivial, rfl, fun j x v hx hv => ?_⟩
  rw [It.cells] at hx
  match j, hx, hv with
  | 0, hx, hv => simp at hx hv; subst hx; subst hv; exact ⟨.v _, rfl⟩
  | 1, hx, hv => simp at hx hv; subst hx; subst hv; exact hr1.2 0 _ _ rfl rfl
  | 2, hx, hv => simp at hx hv; subst hx; subst hv; exact hr1.2 1 _ _ rfl rfl
  | j + 3, hx, hv => simp at hx

theorem open_string {H : Type} {enc : TypeId × Value → H} {P : Program} {W : World} {r : Reach} {b0 : Nat} {t : TypeId} {v : Value} {d : DataW H} {ps : List MemPlace} (ht : P.underlying t = some .string) (hv : Value.okWide P W r b0 t v) (hd : DataW.Trod enc P W 0 (fun _ => true) true t v d ps) : ∃ s : ByteArray, v = .string s ∧ s.size ≤ maxLen := by
  obtain ⟨fuel, hf⟩ := hd
  have hc : v.cells.toList = [v] := by
    cases v with
    | agg cs => simp [Value.okWide, ht, Cell.okWide, Cell.ok] at hv
    | _ => rfl
  rw [hc] at hf
  obtain ⟨s, h1, _, h2⟩ := DataW.trod_string ht hf
  cases h1
  exact ⟨s, rfl, h2⟩
end Go.Proofs.Ytoccpldnegloaaa.Ab
