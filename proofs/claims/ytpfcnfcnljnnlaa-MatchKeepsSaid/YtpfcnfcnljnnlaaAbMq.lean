/-
  A row's readings.
-/
import Derived.Test.YtpfcnfcnljnnlaaAbMp
import Derived.Test.YtpfcnfcnljnnlaaAbX
set_option linter.unusedVariables false
set_option maxHeartbeats 4000000
namespace Go.Proofs.Ytpfcnfcnljnnlaa.Ab
open Go.Proofs

theorem i64_wf {n : Int} (h : (Lit.int .i64 n).wf = true) : i64 n := by
  simpa [Lit.wf, IntKind.min, IntKind.max, IntKind.signed, IntKind.bits, i64] using h

theorem oks_of : ∀ (l : List T), (∀ t ∈ l, t.ok) → oks l
  | [], _ => trivial
  | t :: l, h => ⟨h t (by simp), oks_of l fun x hx => h x (by simp [hx])⟩

theorem reads_nil (W : World) : Reads W (.agg []) [] := ⟨rfl, fun j x u h => by simp [AV.cells] at h⟩
theorem reads_cons {W : World} {a : AV} {l : List AV} {u : Value} {cs : List Value} (h : Rel (base0 W) a u) (ho : u.oneCell' = true) (hr : Reads W (.agg l) cs) : Reads W (.agg (a :: l)) (u :: cs) := by
  refine ⟨by have := hr.1; simp only [AV.cells, List.length_cons] at this ⊢; omega, fun j x v hx hv => ?_⟩
  cases j with
  | zero => simp [AV.cells] at hx hv; subst hx; subst hv; exact ⟨h, ho⟩
  | succ j => exact hr.2 j x v (by simpa [AV.cells] using hx) (by simpa using hv)
theorem reads_append {W : World} : ∀ {l m : List AV} {cs ds : List Value}, Reads W (.agg l) cs → Reads W (.agg m) ds → Reads W (.agg (l ++ m)) (cs ++ ds)
  | [], m, cs, ds, h, h' => by
    have : cs = [] := by have := h.1; simpa [AV.cells] using this
    subst this
    exact h'
  | a :: l, m, cs, ds, h, h' => by
    have h1 := h.1
    simp only [AV.cells, List.length_cons] at h1
    obtain ⟨u, cs', rfl, h2⟩ := len_succ h1
    obtain ⟨g1, g2⟩ := h.2 0 a u (by simp [AV.cells]) (by simp)
    exact reads_cons g1 g2 (reads_append (l := l) ⟨h2, fun j x v hx hv => h.2 (j + 1) x v (by simpa [AV.cells] using hx) (by simpa using hv)⟩ h')

theorem len_two {α : Type} {l : List α} (h : l.length = 2) : ∃ a b, l = [a, b] := by
  obtain ⟨a, l1, rfl, h1⟩ := len_succ h
  obtain ⟨b, l2, rfl, h2⟩ := len_succ h1
  obtain rfl := len_nil h2
  exact ⟨a, b, rfl⟩
theorem len_three {α : Type} {l : List α} (h : l.length = 3) : ∃ a b c, l = [a, b, c] := by
  obtain ⟨a, l1, rfl, h1⟩ := len_succ h
  obtain ⟨b, c, rfl⟩ := len_two h1
  exact ⟨a, b, c, rfl⟩

theorem T.av_cells_agg (t : T) : t.av = .agg [.i t.kind, .i t.int, .v (.string t.name), .sl 4 (avs t.args) none] := T.av_eta t

theorem read_term {H : Type} (enc : TypeId × Value → H) (W : World) : ∀ (fuel : Nat) (cs : List Value) (y : DataW H × List MemPlace), DataW.trod enc Try.prog W 0 (fun _ => true) true fuel 25 cs = some y → ∃ t : T, t.ok ∧ Reads W t.av cs := by
  intro fuel
  induction fuel using Nat.strongRecOn with
  | _ fuel ih =>
    intro cs y h
    obtain ⟨xs, n, hn, _, hl, hlen, hf⟩ := DataW.trod_struct Try.underlying25 h
    have h4 : Try.prog.cellsOf 25 = 4 := by kernel_rfl
    have hi1 : Try.prog.cellsOf 3 = 1 := by kernel_rfl
    have hs1 : Try.prog.cellsOf 9 = 1 := by kernel_rfl
    have hl1 : Try.prog.cellsOf 23 = 1 := by kernel_rfl
    rw [h4] at hl
    have hlen4 : xs.length = 4 := hlen
    obtain ⟨y0, y1, y2, y3, rfl⟩ := len_four hlen4
    obtain ⟨c0, c1, c2, c3, rfl⟩ := len_four hl
    have g0 : DataW.trod enc Try.prog W 0 (fun _ => true) true n 3 (([c0, c1, c2, c3].drop 0).take (Try.prog.cellsOf 3)) = some y0 := hf 0 _ rfl
    have g1 : DataW.trod enc Try.prog W 0 (fun _ => true) true n 3 (([c0, c1, c2, c3].drop 1).take (Try.prog.cellsOf 3)) = some y1 := hf 1 _ rfl
    have g2 : DataW.trod enc Try.prog W 0 (fun _ => true) true n 9 (([c0, c1, c2, c3].drop 2).take (Try.prog.cellsOf 9)) = some y2 := hf 2 _ rfl
    have g3 : DataW.trod enc Try.prog W 0 (fun _ => true) true n 23 (([c0, c1, c2, c3].drop 3).take (Try.prog.cellsOf 23)) = some y3 := hf 3 _ rfl
    clear hf
    rw [hi1] at g0 g1
    rw [hs1] at g2
    rw [hl1] at g3
    simp only [List.drop_zero, List.drop_succ_cons, List.take_succ_cons, List.take_zero] at g0 g1 g2 g3
    obtain ⟨k, e0, _, w0⟩ := DataW.trod_int Try.underlying3 g0
    obtain ⟨i, e1, _, w1⟩ := DataW.trod_int Try.underlying3 g1
    obtain ⟨s, e2, _, w2⟩ := DataW.trod_string Try.underlying9 g2
    obtain ⟨l, u, hg, e3, hu, hrel⟩ := read_slice (X := T) (val := T.av) (Good := T.ok) (s := 4) Try.underlying23 h4 (by omega) (fun t => by rw [T.av_cells]; rfl) (fun m cs y hm hy => ih m (by omega) cs y hy) g3
    cases e0; cases e1; cases e2; cases e3
    refine ⟨.mk k i s l, ?_, ?_⟩
    · simp only [T.ok]
      exact ⟨i64_wf w0, i64_wf w1, by simp only [maxLen] at w2; omega, oks_of l hg⟩
    · rw [← avs_map] at hrel
      rw [T.av_eta]
      exact reads_cons (.v _) rfl (reads_cons (.v _) rfl (reads_cons (.v _) rfl (reads_cons hrel hu (reads_nil W))))

theorem read_bind {H : Type} (enc : TypeId × Value → H) (W : World) (fuel : Nat) (cs : List Value) (y : DataW H × List MemPlace) (h : DataW.trod enc Try.prog W 0 (fun _ => true) true fuel 46 cs = some y) : ∃ b : Int × T, (i64 b.1 ∧ b.2.ok) ∧ Reads W (bav b) cs := by
  obtain ⟨xs, fu, hfu, _, hl, hlen, hf⟩ := DataW.trod_struct Try.underlying46 h
  have hC : Try.prog.cellsOf 46 = 5 := by kernel_rfl
  rw [hC] at hl
  have hlenN : xs.length = 2 := hlen
  obtain ⟨y0, y1, rfl⟩ := len_two hlenN
  obtain ⟨c0, cs, rfl, hl4⟩ := len_succ hl
  have g0 : DataW.trod enc Try.prog W 0 (fun _ => true) true fu 3 (((c0 :: cs).drop 0).take (Try.prog.cellsOf 3)) = some y0 := hf 0 _ rfl
  rw [show Try.prog.cellsOf 3 = 1 by kernel_rfl] at g0
  have g1 : DataW.trod enc Try.prog W 0 (fun _ => true) true fu 25 (((c0 :: cs).drop 1).take (Try.prog.cellsOf 25)) = some y1 := hf 1 _ rfl
  rw [show Try.prog.cellsOf 25 = 4 by kernel_rfl] at g1
  clear hf
  simp only [List.drop_zero, List.drop_succ_cons, List.take_succ_cons, List.take_zero] at g0 g1
  rw [List.take_of_length_le (by omega)] at g1
  obtain ⟨n, e0, _, w0⟩ := DataW.trod_int Try.underlying3 g0
  obtain ⟨t, ht, hr⟩ := read_term enc W _ _ _ g1
  cases e0
  rw [T.av_eta] at hr
  exact ⟨(n, t), ⟨i64_wf w0, ht⟩, reads_cons (.v _) rfl hr⟩

theorem read_atom {H : Type} (enc : TypeId × Value → H) (W : World) (fuel : Nat) (cs : List Value) (y : DataW H × List MemPlace) (h : DataW.trod enc Try.prog W 0 (fun _ => true) true fuel 36 cs = some y) : ∃ g : G, g.ok ∧ Reads W g.atom cs := by
  obtain ⟨xs, fu, hfu, _, hl, hlen, hf⟩ := DataW.trod_struct Try.underlying36 h
  have hC : Try.prog.cellsOf 36 = 2 := by kernel_rfl
  rw [hC] at hl
  have hlenN : xs.length = 2 := hlen
  obtain ⟨y0, y1, rfl⟩ := len_two hlenN
  obtain ⟨c0, c1, rfl⟩ := len_two hl
  have g0 : DataW.trod enc Try.prog W 0 (fun _ => true) true fu 9 (([c0, c1].drop 0).take (Try.prog.cellsOf 9)) = some y0 := hf 0 _ rfl
  rw [show Try.prog.cellsOf 9 = 1 by kernel_rfl] at g0
  have g1 : DataW.trod enc Try.prog W 0 (fun _ => true) true fu 23 (([c0, c1].drop 1).take (Try.prog.cellsOf 23)) = some y1 := hf 1 _ rfl
  rw [show Try.prog.cellsOf 23 = 1 by kernel_rfl] at g1
  clear hf
  simp only [List.drop_zero, List.drop_succ_cons, List.take_succ_cons, List.take_zero] at g0 g1
  obtain ⟨n, e0, _, w0⟩ := DataW.trod_string Try.underlying9 g0
  obtain ⟨l, u1, hg1, e1, hu1, hr1⟩ := read_slice (X := T) (val := T.av) (Good := T.ok) (s := 4) Try.underlying23 (by kernel_rfl) (by omega) (fun t => by rw [T.av_cells]; rfl) (fun m cs y _ hy => read_term enc W m cs y hy) g1
  rw [← avs_map] at hr1
  cases e0; cases e1
  exact ⟨⟨0, n, l⟩, ⟨by show i64 0; unfold i64; omega, by simp only [maxLen] at w0; show n.size ≤ _; omega, oks_of l hg1⟩, reads_cons (.v _) rfl (reads_cons hr1 hu1 (reads_nil W))⟩

theorem read_goal {H : Type} (enc : TypeId × Value → H) (W : World) (fuel : Nat) (cs : List Value) (y : DataW H × List MemPlace) (h : DataW.trod enc Try.prog W 0 (fun _ => true) true fuel 48 cs = some y) : ∃ g : G, g.ok ∧ Reads W g.goal cs := by
  obtain ⟨xs, fu, hfu, _, hl, hlen, hf⟩ := DataW.trod_struct Try.underlying48 h
  have hC : Try.prog.cellsOf 48 = 3 := by kernel_rfl
  rw [hC] at hl
  have hlenN : xs.length = 3 := hlen
  obtain ⟨y0, y1, y2, rfl⟩ := len_three hlenN
  obtain ⟨c0, c1, c2, rfl⟩ := len_three hl
  have g0 : DataW.trod enc Try.prog W 0 (fun _ => true) true fu 3 (([c0, c1, c2].drop 0).take (Try.prog.cellsOf 3)) = some y0 := hf 0 _ rfl
  rw [show Try.prog.cellsOf 3 = 1 by kernel_rfl] at g0
  have g1 : DataW.trod enc Try.prog W 0 (fun _ => true) true fu 9 (([c0, c1, c2].drop 1).take (Try.prog.cellsOf 9)) = some y1 := hf 1 _ rfl
  rw [show Try.prog.cellsOf 9 = 1 by kernel_rfl] at g1
  have g2 : DataW.trod enc Try.prog W 0 (fun _ => true) true fu 23 (([c0, c1, c2].drop 2).take (Try.prog.cellsOf 23)) = some y2 := hf 2 _ rfl
  rw [show Try.prog.cellsOf 23 = 1 by kernel_rfl] at g2
  clear hf
  simp only [List.drop_zero, List.drop_succ_cons, List.take_succ_cons, List.take_zero] at g0 g1 g2
  obtain ⟨i, e0, _, w0⟩ := DataW.trod_int Try.underlying3 g0
  obtain ⟨n, e1, _, w1⟩ := DataW.trod_string Try.underlying9 g1
  obtain ⟨l, u2, hg2, e2, hu2, hr2⟩ := read_slice (X := T) (val := T.av) (Good := T.ok) (s := 4) Try.underlying23 (by kernel_rfl) (by omega) (fun t => by rw [T.av_cells]; rfl) (fun m cs y _ hy => read_term enc W m cs y hy) g2
  rw [← avs_map] at hr2
  cases e0; cases e1; cases e2
  exact ⟨⟨i, n, l⟩, ⟨i64_wf w0, by simp only [maxLen] at w1; show n.size ≤ _; omega, oks_of l hg2⟩, reads_cons (.v _) rfl (reads_cons (.v _) rfl (reads_cons hr2 hu2 (reads_nil W)))⟩

/-- a case: an environment, a pattern, a term -/
structure Cs where
  env : Env
  p : T
  t : T
def Cs.ok (c : Cs) : Prop := (∀ b ∈ c.env, i64 b.1 ∧ b.2.ok) ∧ c.p.ok ∧ c.t.ok
def Cs.av (c : Cs) : AV := .agg [.sl 5 (bavs c.env) none, .i c.p.kind, .i c.p.int, .v (.string c.p.name), .sl 4 (avs c.p.args) none, .i c.t.kind, .i c.t.int, .v (.string c.t.name), .sl 4 (avs c.t.args) none]

theorem read_case {H : Type} (enc : TypeId × Value → H) (W : World) (fuel : Nat) (cs : List Value) (y : DataW H × List MemPlace) (h : DataW.trod enc Try.prog W 0 (fun _ => true) true fuel 27 cs = some y) : ∃ c : Cs, c.ok ∧ Reads W c.av cs := by
  obtain ⟨xs, fu, hfu, _, hl, hlen, hf⟩ := DataW.trod_struct Try.underlying27 h
  have hC : Try.prog.cellsOf 27 = 9 := by kernel_rfl
  rw [hC] at hl
  have hlenN : xs.length = 3 := hlen
  obtain ⟨y0, y1, y2, rfl⟩ := len_three hlenN
  obtain ⟨c0, r0, rfl, hl0⟩ := len_succ hl
  obtain ⟨c1, r1, rfl, hl1⟩ := len_succ hl0
  obtain ⟨c2, r2, rfl, hl2⟩ := len_succ hl1
  obtain ⟨c3, r3, rfl, hl3⟩ := len_succ hl2
  obtain ⟨c4, r4, rfl, hl4⟩ := len_succ hl3
  have g0 : DataW.trod enc Try.prog W 0 (fun _ => true) true fu 22 (((c0 :: c1 :: c2 :: c3 :: c4 :: r4).drop 0).take (Try.prog.cellsOf 22)) = some y0 := hf 0 _ rfl
  rw [show Try.prog.cellsOf 22 = 1 by kernel_rfl] at g0
  have g1 : DataW.trod enc Try.prog W 0 (fun _ => true) true fu 25 (((c0 :: c1 :: c2 :: c3 :: c4 :: r4).drop 1).take (Try.prog.cellsOf 25)) = some y1 := hf 1 _ rfl
  have g2 : DataW.trod enc Try.prog W 0 (fun _ => true) true fu 25 (((c0 :: c1 :: c2 :: c3 :: c4 :: r4).drop 5).take (Try.prog.cellsOf 25)) = some y2 := hf 2 _ rfl
  rw [show Try.prog.cellsOf 25 = 4 by kernel_rfl] at g1 g2
  clear hf
  simp only [List.drop_zero, List.drop_succ_cons, List.take_succ_cons, List.take_zero] at g0 g1 g2
  rw [List.take_of_length_le (by omega)] at g2
  obtain ⟨l, u1, hg1, e1, hu1, hr1⟩ := read_slice (X := Int × T) (val := bav) (Good := fun b => i64 b.1 ∧ b.2.ok) (s := 5) Try.underlying22 (by kernel_rfl) (by omega) (fun t => by rw [bav_cells]; rfl) (fun m cs y _ hy => read_bind enc W m cs y hy) g0
  obtain ⟨p, hp, hrp⟩ := read_term enc W _ _ _ g1
  obtain ⟨t, ht, hrt⟩ := read_term enc W _ _ _ g2
  cases e1
  rw [T.av_eta] at hrp hrt
  exact ⟨⟨l, p, t⟩, ⟨hg1, hp, ht⟩, reads_cons hr1 hu1 (reads_append hrp hrt)⟩
end Go.Proofs.Ytpfcnfcnljnnlaa.Ab
