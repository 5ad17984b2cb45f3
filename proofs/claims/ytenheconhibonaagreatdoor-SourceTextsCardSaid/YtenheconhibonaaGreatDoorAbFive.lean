/-
  An abstract program logic, contracts of functions, and laws of terms and rules (part 5).
-/
import Derived.Test.YtenheconhibonaaGreatDoorAbFour
set_option linter.unusedVariables false
set_option linter.unusedSimpArgs false
set_option maxHeartbeats 4000000
set_option maxRecDepth 4000
namespace Go.Proofs.YtenheconhibonaaGreatDoor.Ab
open Go.Proofs
theorem QcC (p : Pg) (hd : p.decls.length ≤ 100000) (hr : p.rules.length ≤ 100000) (hf : ∀ r ∈ p.rules, r.fits) (h : AH) (hG : XO h) :
    Yd Tryz.prog 16 [p.av] h fun o h' => o = .ret (.v (.string (Z8 p))) ∧ h' = h := by
  have epv : p.av = AV.agg [.sl 2 (vs Dc.av p.decls) none, .sl 6 (vs Rl.av p.rules) none] := rfl
  rw [epv]
  by_cases q1 : 30 < p.decls.length
  · have z1 : (p.decls.length : Int) > 30 := by omega
    refine Qh Tryz.func16 rfl Tryz.call16 Tryz.ntmps16 (congrArg Array.toList Tryz.results16) (by simp) ?_
    repeat (first | (((with_reducible refine Qa fun K E hK hE => ?_)); simp -implicitDefEqProofs only [Qd, Qb, Qg, OpW, aop, undef, AS.ev, Qc, Qq, Qr, QF, Qk, QD, QlK, AV.Qk5, Qy, QlX, QlY, QI, QlZ, Ql0, ↓reduceIte, QlQ, QlR, Nat.reduceAdd, Nat.reduceLT, Nat.reduceEqDiff, QlP, Ql2, Ql, QK, QL, aBin, aLen, QO, QlD, QlE, QlF, QlI, QlG, Q1, goInt, Ql9, beq_false, ti33, un33, Y6, z1, QG]) | (with_reducible (first | refine Qi fun K hK => ?_ | refine Qn ?_ | refine QB ?_)) | ((with_reducible refine hK _ ?_); clear hK) | (refine Qj rfl ?_; simp only [↓reduceIte]))
    simp only [QN, Qp, Qu, upd, ↓reduceIte, QlJ, QlN]; first | refine Qe (htake _ _) (.keep (.v _)) ⟨by rw [Z8, if_pos (.inl q1)], rfl⟩ | refine Qe List.take_length (.keep (.v _)) ⟨by rw [Z8, if_pos (.inl q1)], rfl⟩
  have z1 : ¬ (p.decls.length : Int) > 30 := by omega
  by_cases q2 : 40 < p.rules.length
  · have z2 : (p.rules.length : Int) > 40 := by omega
    refine Qh Tryz.func16 rfl Tryz.call16 Tryz.ntmps16 (congrArg Array.toList Tryz.results16) (by simp) ?_
    repeat (first | (((with_reducible refine Qa fun K E hK hE => ?_)); simp -implicitDefEqProofs only [Qd, Qb, Qg, OpW, aop, undef, AS.ev, Qc, Qq, QF, Qk, QD, QlK, AV.Qk5, Qy, QlX, QlY, QI, QlZ, ↓reduceIte, QlQ, QlR, Nat.reduceAdd, Nat.reduceLT, Nat.reduceEqDiff, QlP, Ql2, Ql, QK, QL, aBin, aLen, QO, QlD, QlE, QlF, QlI, QlG, Q1, goInt, Ql9, Qma, QlL, QlH, ti27, un27, ti33, un33, Y6, Z2, z1, z2, QG]) | (with_reducible (first | refine Qi fun K hK => ?_ | refine Qn ?_ | refine QB ?_)) | ((with_reducible refine hK _ ?_); clear hK) | (refine Qj rfl ?_; simp only [↓reduceIte]))
    simp only [QN, Qp, Qu, upd, ↓reduceIte, QlJ, QlN]; first | refine Qe (htake _ _) (.keep (.v _)) ⟨by rw [Z8, if_pos (.inr q2)], rfl⟩ | refine Qe List.take_length (.keep (.v _)) ⟨by rw [Z8, if_pos (.inr q2)], rfl⟩
  have z2 : ¬ (p.rules.length : Int) > 40 := by omega
  have hno : ¬ (30 < p.decls.length ∨ 40 < p.rules.length) := by omega
  have a := Qja Dc.av YY (.fn (.func 54) [] []) QiT p.decls (by omega) (h ++ [AB.cells 35 2 [.agg [.sl 2 (vs Dc.av p.decls) none, .sl 6 (vs Rl.av p.rules) none]]]) (fun d _ h => FunW.call (Qhd d h))
  cases hv : p.decls.all YY with
  | false =>
    rw [hv] at a
    refine Qh Tryz.func16 rfl Tryz.call16 Tryz.ntmps16 (congrArg Array.toList Tryz.results16) (by simp) ?_
    repeat (first | ((first | (with_reducible (first | refine Qa fun K E hK hE => ?_ | refine FunW.ret (FunW.call a) ?_))); simp -implicitDefEqProofs only [Qd, Qb, Qg, OpW, QR, aop, undef, AS.ev, Qc, Qq, QF, Qk, QD, QlK, AV.Qk5, Qy, QlX, QlY, QI, QlZ, Ql1, ↓reduceIte, QlQ, QlR, Nat.reduceAdd, Nat.reduceLT, Nat.reduceEqDiff, QlP, Ql2, Ql, QK, QL, aBin, aLen, QO, QlD, QlE, QlF, QlI, QlG, QlS, QlW, Q1, Xb, goInt, Qma, QlL, QlH, ti27, un27, ti33, un33, Y6, Z2, z1, z2, QG]) | (with_reducible (first | refine Qi fun K hK => ?_ | refine Qn ?_ | refine Qv ?_ | refine Qf ?_ | refine QB ?_)) | ((with_reducible refine hK _ ?_); clear hK) | (refine Qj rfl ?_; simp only [↓reduceIte, QlH]))
    simp only [QN, Qp, Qu, upd, ↓reduceIte, QlJ, QlN]; first | refine Qe (htake _ _) (.keep (.v _)) ⟨by rw [Z8, if_neg hno, hv]; rfl, rfl⟩ | refine Qe List.take_length (.keep (.v _)) ⟨by rw [Z8, if_neg hno, hv]; rfl, rfl⟩
  | true =>
  rw [hv] at a
  by_cases q3 : p.decls = [] ∧ p.rules = []
  · obtain ⟨e1, e2⟩ := q3
    have R : Z8 p = { data := #[] } := by rw [Z8, if_neg hno, if_pos hv, e1, e2]; rfl
    rw [e1, e2] at a ⊢
    have c := QaB (ty := 74) (i := h.length + 1) (h ++ [AB.cells 35 2 [.agg [.sl 2 (vs Dc.av []) none, .sl 6 (vs Rl.av []) none]], AB.dead]) (by simp)
    have e : hs (h ++ [AB.cells 35 2 [.agg [.sl 2 (vs Dc.av []) none, .sl 6 (vs Rl.av []) none]], AB.dead]) (h.length + 1) (bw00 74) = h ++ [AB.cells 35 2 [.agg [.sl 2 (vs Dc.av []) none, .sl 6 (vs Rl.av []) none]], bw00 74] := by simp [hs]
    rw [e, bw00] at c
    simp only [Qkj] at a c
    have c3 := Qbu .empty
    have y1 : ¬ ((0 : Int) > 30) := by decide
    have y2 : ¬ ((0 : Int) > 40) := by decide
    have y3 : ¬ ((0 : Int) > 0) := by decide
    have y4 : ¬ ((0 : Int) < 0) := by decide
    rw [R]
    refine Qh Tryz.func16 rfl Tryz.call16 Tryz.ntmps16 (congrArg Array.toList Tryz.results16) (by simp) ?_
    repeat (first | ((first | (with_reducible (first | refine Qa fun K E hK hE => ?_ | refine FunW.ret (FunW.call a) ?_))); simp -implicitDefEqProofs only [Qd, Qb, Qg, OpW, QR, aop, undef, AS.ev, Qc, Qq, QF, Qk, QD, QlK, AV.Qk5, Qy, QlX, QlY, QP, Xc, QI, QlZ, Ql0, ↓reduceIte, QlQ, QlR, Nat.reduceAdd, Nat.reduceLT, Nat.reduceEqDiff, QlP, Ql2, Ql, QK, QL, aBin, aLen, QO, hlen, happ, QlD, QlE, QlF, QlI, QlG, QlS, QlW, Ql5, Ql4, Q1, Xb, goInt, Qma, QlL, Qmp, QlH, ti27, un27, ti33, un33, Y6, Z2, zi74, y1, y2, y3, Qkj]) | (with_reducible (first | refine Qi fun K hK => ?_ | refine Qm ?_ | refine Qv ?_ | refine Qf ?_)) | ((with_reducible refine hK _ ?_); clear hK) | (refine Qj rfl ?_; simp only [↓reduceIte, QlH]))
    obtain ⟨I, hI⟩ : ∃ I : Nat → AS → Prop, I = fun m' s => m' = 0 ∧ s.tm 3 = .ptr (h.length + 1) 0 0 ∧ s.tm 33 = .i 0 ∧ s.tm 34 = .i 0 ∧ s.h = h ++ [AB.cells 35 2 [.agg [.sl 2 [] none, .sl 6 [] none]], .cells 74 2 [.agg [.v (.pointer none), .v (.slice none 0 0)]]] := ⟨_, rfl⟩; refine Q9 I ?_ (m := 0) ?_
    · intro m' s hs; rw [hI] at hs; obtain ⟨tm, hp⟩ := s; dsimp only at hs; obtain ⟨rfl, t3, t33, t34, rfl⟩ := hs
      repeat (first | ((first | (with_reducible (first | refine Qa fun K E hK hE => ?_ | refine FunW.ret (FunW.call c) ?_ | refine Qs c3 ?_))); simp -implicitDefEqProofs only [Qd, Qb, Qg, OpW, QR, aop, AS.ev, Qc, Qk, ↓reduceIte, Nat.reduceLT, Nat.reduceEqDiff, aBin, QlF, QlS, QlW, QW, Qma, t3, t33, t34, y4]) | (with_reducible (first | refine Qi fun K hK => ?_ | refine Qn ?_ | refine Q2 ?_ | refine Qf ?_ | refine QU ?_ | refine QV ?_)) | ((with_reducible refine hK _ ?_); clear hK) | (clear hK; (with_reducible refine hK _ ?_); clear hK) | (refine Qj rfl ?_; simp only [↓reduceIte, QlH]))
      simp only [QN, Qp, Qu, upd, ↓reduceIte, QlJ, QlN]; first | refine Qe (htake _ _) (.keep (.v _)) ⟨rfl, rfl⟩ | refine Qe List.take_length (.keep (.v _)) ⟨rfl, rfl⟩
    · rw [hI]
      exact ⟨rfl, rfl, rfl, rfl, rfl⟩
  · have k1 := QgY hv
    have hb1 : conB.size = 11 := rfl
    have hb2 : endB.size = 2 := rfl
    have hb3 : nlB.size = 1 := rfl
    have s1 : (Qbx p.decls).size ≤ 2000000000 := by
      rw [Qbx]; split
      · decide
      · simp only [Qt]; omega
    obtain ⟨H0, eH⟩ : ∃ H : AH, H = h ++ [AB.cells 35 2 [.agg [.sl 2 (vs Dc.av p.decls) none, .sl 6 (vs Rl.av p.rules) none]]] := ⟨_, rfl⟩
    have hl0 : H0.length = h.length + 1 := by rw [eH]; simp
    have hi : h.length + 1 < (H0 ++ [AB.dead, AB.dead]).length := by rw [List.length_append, hl0]; simp
    have hj : h.length + 2 < (H0 ++ [AB.dead, AB.dead]).length := by rw [List.length_append, hl0]; simp
    have hle : (H0 ++ [AB.dead, AB.dead]).length = h.length + 3 := by rw [List.length_append, hl0]; rfl
    have hij : h.length + 1 ≠ h.length + 2 := by omega
    have g0 : ∀ u tx, (HS (H0 ++ [AB.dead, AB.dead]) (h.length + 1) (h.length + 2) u tx)[h.length]? = some (AB.cells 35 2 [.agg [.sl 2 (vs Dc.av p.decls) none, .sl 6 (vs Rl.av p.rules) none]]) := fun u tx => by
      rw [HS, YI _ _ (by omega) (by omega), eH]; simp
    have hGs : ∀ u tx, XO (HS (H0 ++ [AB.dead, AB.dead]) (h.length + 1) (h.length + 2) u tx) := fun u tx => by
      have := QfF (h := H0) (by rw [eH]; exact HasG.app hG _) [AB.dead, AB.dead] rfl u tx
      rwa [hl0] at this
    obtain ⟨u1, eu⟩ : ∃ u : Bool, u = !decide (p.decls = []) := ⟨_, rfl⟩
    refine Qh Tryz.func16 rfl Tryz.call16 Tryz.ntmps16 (congrArg Array.toList Tryz.results16) (by simp) ?_
    iterate 19 (try (first | ((first | (with_reducible (first | refine Qa fun K E hK hE => ?_ | refine FunW.ret (FunW.call a) ?_))); simp -implicitDefEqProofs only [Qd, Qb, Qg, OpW, QR, aop, undef, AS.ev, Qc, Qq, QF, Qk, QD, QlK, AV.Qk5, Qy, QlX, QlY, QP, Xc, QI, QlZ, Ql0, ↓reduceIte, QlQ, QlR, Nat.reduceAdd, Nat.reduceLT, Nat.reduceEqDiff, QlP, Ql2, Ql, QK, QL, aBin, aLen, QO, hlen, happ, QlD, QlE, QlF, QlI, QlG, QlS, QlW, Ql5, Ql4, Q1, Xb, goInt, Qma, QlL, QlH, ti27, un27, ti33, un33, Y6, Z2, zi74, z1, z2, QG]) | (with_reducible (first | refine Qi fun K hK => ?_ | refine Qv ?_ | refine Qf ?_)) | ((with_reducible refine hK _ ?_); clear hK) | (refine Qj rfl ?_; simp only [↓reduceIte, QlH])))
    refine ZS (h.length + 1) 74 5 (.pointer none) (by simp) ?_
    have e0 : ((h ++ [AB.cells 35 2 [.agg [.sl 2 (vs Dc.av p.decls) none, .sl 6 (vs Rl.av p.rules) none]], AB.cells 74 2 [.agg [.v (.pointer none), .v (.slice none 0 0)]]]) ++ [AB.grow 5 1 0]).set (h.length + 1)
        (AB.cells 74 2 [.agg [.v (.pointer none), .sl 1 [] (some (h ++ [AB.cells 35 2 [.agg [.sl 2 (vs Dc.av p.decls) none, .sl 6 (vs Rl.av p.rules) none]], AB.cells 74 2 [.agg [.v (.pointer none), .v (.slice none 0 0)]]]).length)]]) = HS (H0 ++ [AB.dead, AB.dead]) (h.length + 1) (h.length + 2) false .empty := by
      rw [eH]; simp [HS, hs2, bw]; rfl
    rw [e0]
    refine Xv (fun s => s.tm 1 = .ptr h.length 0 0 ∧ s.tm 3 = .ptr (h.length + 1) 0 0 ∧ s.h = HS (H0 ++ [AB.dead, AB.dead]) (h.length + 1) (h.length + 2) u1 (Qbx p.decls)) ?_ ?_
    rotate_left
    · by_cases q0 : p.decls = []
      · have z0 : ¬ (p.decls.length : Int) > 0 := by rw [q0]; decide
        have eu1 : u1 = false := by rw [eu, decide_eq_true q0]; rfl
        repeat (first | (((with_reducible refine Qa fun K E hK hE => ?_)); simp -implicitDefEqProofs only [Qd, Qb, Qg, OpW, aop, AS.ev, Qc, Qq, Qk, Qy, ↓reduceIte, Nat.reduceLT, Nat.reduceEqDiff, Ql2, Ql, QK, QL, aBin, aLen, QlD, QlF, Q1, goInt, Qma, ti33, un33, Y6, g0, z0, QG]) | (with_reducible (first | refine Qv ?_ | refine Qf ?_)) | ((with_reducible refine hK _ ?_); clear hK) | (refine Qj rfl ?_; simp only [↓reduceIte, QlH]))
        rw [eu1, Qbx, if_pos q0]
        exact ⟨rfl, rfl, rfl⟩
      · have hq : p.decls.length ≠ 0 := fun e => q0 (List.length_eq_zero_iff.1 e)
        have z0 : (p.decls.length : Int) > 0 := by omega
        have eu1 : u1 = true := by rw [eu, decide_eq_false q0]; rfl
        have c := QkB p.decls hv hd _ (hGs false .empty)
        have hsa1 := fun xo yo => Xl Tryz.prog 9 xo yo conB (jD p.decls) (by omega)
        have hsa2 := fun xo yo => Xl Tryz.prog 9 xo yo (conB ++ jD p.decls) endB (by rw [Qt]; omega)
        have w := sstr hi hj hij false .empty ((conB ++ jD p.decls) ++ endB) (by simp only [Qt]; have : ByteArray.empty.size = 0 := rfl; omega)
        rw [ByteArray.empty_append] at w
        repeat (first | ((first | (with_reducible (first | refine Qa fun K E hK hE => ?_ | refine Qo fun K E hK hE => ?_ | refine FunW.ret (FunW.call c) ?_ | refine FunW.ret (FunW.call w) ?_))); simp -implicitDefEqProofs only [Qd, Qb, Qg, OpW, QR, aop, AS.ev, Qc, Qq, QF, Qk, Qy, ↓reduceIte, Nat.reduceLT, Nat.reduceEqDiff, Ql2, Ql, QK, QL, aBin, aLen, QlD, QlF, QlS, QlW, Q1, goInt, Ql9, ti33, un33, Y6, g0, z0, QG, hsa1, hsa2]) | (with_reducible refine Qf ?_) | ((with_reducible refine hK _ ?_); clear hK) | (refine Qj rfl ?_; simp only [↓reduceIte]))
        rw [eu1, Qbx, if_neg q0]
        exact ⟨rfl, rfl, rfl⟩
    rintro ⟨tm, hp⟩ ⟨t1, t3, hh⟩
    dsimp only at t1 t3 hh
    subst hh
    have f1 := fun u tx => (QhQ (H0 ++ [AB.dead, AB.dead]) (h.length + 1) (h.length + 2) u tx).trans hle
    have f3 : ∀ u tx L k, (HS (H0 ++ [AB.dead, AB.dead]) (h.length + 1) (h.length + 2) u tx ++ L)[h.length + 3 + k]? = L[k]? := fun u tx L k => by rw [← hle]; exact Qhz _ _ _ u tx L k
    have f2 : ∀ u tx L, (HS (H0 ++ [AB.dead, AB.dead]) (h.length + 1) (h.length + 2) u tx ++ L)[h.length + 3]? = L[0]? := fun u tx L => f3 u tx L 0
    have f5 : ∀ u tx z L k, (HS (H0 ++ [AB.dead, AB.dead]) (h.length + 1) (h.length + 2) u tx ++ L).set (h.length + 3 + k) z = HS (H0 ++ [AB.dead, AB.dead]) (h.length + 1) (h.length + 2) u tx ++ L.set k z := fun u tx z L k => by rw [← hle]; exact QeY _ _ _ u tx z L k
    have f4 : ∀ u tx z L, (HS (H0 ++ [AB.dead, AB.dead]) (h.length + 1) (h.length + 2) u tx ++ L).set (h.length + 3) z = HS (H0 ++ [AB.dead, AB.dead]) (h.length + 1) (h.length + 2) u tx ++ L.set 0 z := fun u tx z L => f5 u tx z L 0
    have gapp := fun u tx L => Qhs (h := H0 ++ [AB.dead, AB.dead]) (i := h.length + 1) (j := h.length + 2) hi hj u tx L
    have htk : ∀ u tx L, (HS (H0 ++ [AB.dead, AB.dead]) (h.length + 1) (h.length + 2) u tx ++ L) = h ++ ([AB.cells 35 2 [.agg [.sl 2 (vs Dc.av p.decls) none, .sl 6 (vs Rl.av p.rules) none]], bw 74 (h.length + 1) (h.length + 2) u tx, AB.grow 5 1 tx.size] ++ L) := fun u tx L => by
      rw [← List.append_assoc]; congr 1; rw [eH]; simp [HS, hs2]
    repeat (first | (((with_reducible refine Qa fun K E hK hE => ?_)); simp -implicitDefEqProofs only [Qd, Qb, Qg, OpW, aop, AS.ev, Qc, Qq, Qk, Qy, ↓reduceIte, Nat.reduceLT, QlP, Ql, QK, QL, aLen, QlD, QlE, QlF, goInt, ti27, un27, Z2, g0, t1, QG]) | (with_reducible (first | refine Qi fun K hK => ?_ | refine Qm ?_)) | ((with_reducible refine hK _ ?_); clear hK))
    obtain ⟨I, hI⟩ : ∃ I : Nat → AS → Prop, I = fun m' s => ∃ (k : Nat) (cur : ByteArray), m' = p.rules.length - k ∧ k ≤ p.rules.length ∧ cur ++ Qby (p.rules.drop k) = Qbx p.decls ++ Qby p.rules ∧ ZH p.rules = ZH (p.rules.drop k) ∧ cur.size ≤ 2000000000 + 16385 * k ∧ ((u1 || decide (0 < k)) = true → 0 < cur.size) ∧ s.tm 3 = .ptr (h.length + 1) 0 0 ∧ s.tm 32 = .sl 6 (vs Rl.av p.rules) none ∧ s.tm 33 = .i p.rules.length ∧ s.tm 34 = .i k ∧ (∃ L, s.h = HS (H0 ++ [AB.dead, AB.dead]) (h.length + 1) (h.length + 2) (u1 || decide (0 < k)) cur ++ L) := ⟨_, rfl⟩; refine Q9 I ?_ (m := p.rules.length) ?_
    · intro m' s hs; rw [hI] at hs; obtain ⟨tm, hp⟩ := s; dsimp only at hs; obtain ⟨k, cur, rfl, hk, he, hal, hcs, hcu, t3, t32, t33, t34, L, rfl⟩ := hs
      by_cases hlt : k < p.rules.length
      · have hg := YN Rl.av hlt
        have y1 : (k : Int) < p.rules.length := by omega
        obtain ⟨hag, hcl, hc1⟩ := QkJ p.rules[k]
        obtain ⟨b1, b2, b3, b4, b5⟩ := hf p.rules[k] (List.getElem_mem hlt)
        have c := Qb8 p.rules[k] b1 b2 b3 b4 b5 (HS (H0 ++ [AB.dead, AB.dead]) (h.length + 1) (h.length + 2) (u1 || decide (0 < k)) cur ++ (L ++ [AB.cells 25 6 [(p.rules[k]).av]])) (HasG.app (hGs _ _) _)
        have hsz := Qeg p.rules[k]
        have hd1 : p.rules.drop k = p.rules[k] :: p.rules.drop (k + 1) := List.drop_eq_getElem_cons hlt
        rw [hd1] at he hal
        rw [Qby] at he
        simp only [ZH, QlX] at hal
        have ee : ((Z9 p.rules[k]).toList == ({ data := #[] } : ByteArray).toList) = Yr (Z9 p.rules[k]) := rfl
        cases ce : Yr (Z9 p.rules[k])
        · rw [ce] at ee hal
          have glen : h.length + 1 < (H0 ++ [AB.dead, AB.dead] ++ (L ++ [AB.cells 25 6 [(p.rules[k]).av]])).length ∧ h.length + 2 < (H0 ++ [AB.dead, AB.dead] ++ (L ++ [AB.cells 25 6 [(p.rules[k]).av]])).length := by rw [List.length_append]; omega
          have w := sstr glen.1 glen.2 hij (u1 || decide (0 < k)) cur (Z9 p.rules[k] ++ nlB) (by rw [Qt]; omega)
          rw [gapp, gapp] at w
          have hsa := fun xo yo => Xl Tryz.prog 9 xo yo (Z9 p.rules[k]) nlB (by omega)
          repeat (first | ((first | (with_reducible (first | refine Qa fun K E hK hE => ?_ | refine Qo fun K E hK hE => ?_ | refine FunW.ret (FunW.call c) ?_ | refine FunW.ret (FunW.call w) ?_))); simp -implicitDefEqProofs only [Qd, Qb, Qg, OpW, QR, aop, undef, AS.ev, Qc, QY, Qq, QF, Qk, AV.Qk5, Qy, QM, QlX, QlY, QC, QA, QP, QlZ, ↓reduceIte, QlQ, QlR, Nat.reduceAdd, Nat.reduceLT, Nat.reduceEqDiff, QlP, Qmb, QK, QL, Xj, Q0, QJ, aBin, QO, Yg, hlen, happ, QlD, Ql7, QlF, QlS, QlW, QW, Xf, QZ, Ql9, Qmg, Qmf, ti25, zi25, ei27, t3, t32, t33, t34, y1, hg, hag, hcl, hc1, f1, f3, f5, QG, ee, hsa]) | (with_reducible (first | refine Qi fun K hK => ?_ | refine Qm ?_ | refine Qv ?_ | refine Qf ?_ | refine Qw ?_)) | ((with_reducible refine hK _ ?_); clear hK) | (refine Qj rfl ?_; simp only [↓reduceIte, QlH]))
          refine XD.mk (m' := p.rules.length - (k + 1)) (by omega) ?_
          rw [hI]
          refine ⟨k + 1, cur ++ (Z9 p.rules[k] ++ nlB), rfl, hlt, by rw [ByteArray.append_assoc]; exact he, by rw [ZH, hal]; rfl, by rw [Qt, Qt]; omega, fun _ => by rw [Qt, Qt]; omega, t3, t32, t33, ?_, _, by rw [decide_eq_true (Nat.succ_pos k), Bool.or_true]⟩
          simp only [upd, ↓reduceIte]
          rw [Xe (by omega)]
        · rw [ce] at ee hal
          have R : Z8 p = { data := #[] } := by
            rw [Z8, if_neg hno, if_pos hv, if_neg]
            rw [ZH, hal]; simp
          repeat (first | ((first | (with_reducible (first | refine Qa fun K E hK hE => ?_ | refine FunW.ret (FunW.call c) ?_))); simp -implicitDefEqProofs only [Qd, Qb, Qg, OpW, QR, aop, undef, AS.ev, Qc, QY, QF, Qk, AV.Qk5, Qy, QM, QlX, QlY, QC, QA, QP, QlZ, ↓reduceIte, QlQ, QlR, Nat.reduceAdd, Nat.reduceLT, Nat.reduceEqDiff, QlP, Qmb, QK, QL, Xj, Q0, QJ, aBin, QO, Yg, hlen, happ, QlD, Ql7, QlF, QlS, QlW, QW, QZ, Ql9, Qmg, Qmf, ti25, zi25, ei27, t32, t33, t34, y1, hg, hag, hcl, hc1, f1, f3, f5, QG, ee]) | (with_reducible (first | refine Qi fun K hK => ?_ | refine Qm ?_ | refine Qn ?_ | refine Qv ?_ | refine Qf ?_ | refine QB ?_ | refine QH ?_)) | ((with_reducible refine hK _ ?_); clear hK) | (refine Qj rfl ?_; simp only [↓reduceIte]))
          simp only [htk]
          simp only [QN, Qp, Qu, upd, ↓reduceIte, QlJ, QlN]; first | refine Qe (htake _ _) (.keep (.v _)) ⟨by rw [R], rfl⟩ | refine Qe List.take_length (.keep (.v _)) ⟨by rw [R], rfl⟩
      · have hkn : k = p.rules.length := by omega
        subst hkn
        have y1 : ¬ ((p.rules.length : Nat) : Int) < p.rules.length := by omega
        rw [List.drop_length] at he hal
        rw [Qby, ByteArray.append_empty] at he
        have hu : (u1 || decide (0 < p.rules.length)) = true := by
          rw [eu]
          by_cases q0 : p.decls = []
          · have : p.rules.length ≠ 0 := fun e => q3 ⟨q0, List.length_eq_zero_iff.1 e⟩
            rw [decide_eq_true (show 0 < p.rules.length by omega), Bool.or_true]
          · rw [decide_eq_false q0]; rfl
        rw [hu]
        have h0 := hcu hu
        have c := (Qbr (ty := 74) (i := h.length + 1) (j := h.length + 2) hij cur h0 (by omega)).app (h := H0 ++ [AB.dead, AB.dead]) hi hj L
        rw [← HS] at c
        have e2 : hs2 (H0 ++ [AB.dead, AB.dead]) (h.length + 1) (bw 74 (h.length + 1) (h.length + 2) true cur) (h.length + 2) .gone ++ L = h ++ ([AB.cells 35 2 [.agg [.sl 2 (vs Dc.av p.decls) none, .sl 6 (vs Rl.av p.rules) none]], bw 74 (h.length + 1) (h.length + 2) true cur, AB.gone] ++ L) := by
          rw [← List.append_assoc]; congr 1; rw [eH]; simp [hs2]
        rw [e2] at c
        have c3 := Qbu cur
        have R : Z8 p = ZV cur := by
          rw [Z8, if_neg hno, if_pos hv, if_pos (by rw [hal]; rfl), he]
        repeat (first | ((first | (with_reducible (first | refine Qa fun K E hK hE => ?_ | refine FunW.ret (FunW.call c) ?_ | refine Qs c3 ?_))); simp -implicitDefEqProofs only [Qd, Qb, Qg, OpW, QR, aop, AS.ev, Qc, Qk, ↓reduceIte, Nat.reduceLT, Nat.reduceEqDiff, aBin, QlF, QlS, QlW, Ql5, Ql4, QW, Qma, t3, t33, t34, y1]) | (with_reducible (first | refine Qi fun K hK => ?_ | refine Qn ?_ | refine Q2 ?_ | refine Qf ?_ | refine QU ?_ | refine QV ?_)) | ((with_reducible refine hK _ ?_); clear hK) | (clear hK; (with_reducible refine hK _ ?_); clear hK) | (refine Qj rfl ?_; simp only [↓reduceIte, QlH]))
        simp only [QN, Qp, Qu, upd, ↓reduceIte, QlJ, QlN]; first | refine Qe (htake _ _) (.keep (.v _)) ⟨by rw [R], rfl⟩ | refine Qe List.take_length (.keep (.v _)) ⟨by rw [R], rfl⟩
    · rw [hI]
      refine ⟨0, Qbx p.decls, rfl, by omega, rfl, rfl, by omega, fun hu => ?_, t3, rfl, rfl, rfl, [], by rw [decide_eq_false (Nat.lt_irrefl 0), Bool.or_false, List.append_nil]⟩
      rw [decide_eq_false (Nat.lt_irrefl 0), Bool.or_false, eu] at hu
      rw [Qbx, if_neg (by simpa using hu), Qt, Qt]
      omega
end Go.Proofs.YtenheconhibonaaGreatDoor.Ab
set_option maxRecDepth 4000
namespace Go.Proofs.YtenheconhibonaaGreatDoor.Ab
open Go.Proofs
abbrev leqB : ByteArray := { data := #[108, 101, 113] }
def vT (i : Int) : T := .mk 1 i { data := #[] } []
def leqG (x y : Int) : G := ⟨0, leqB, [vT x, vT y]⟩
def exR : Rl := ⟨{ data := #[] }, [], [leqG 3 4, leqG 4 3], [], [⟨3, { data := #[] }, [vT 3, vT 4]⟩], 0⟩
def exP : Pg := ⟨[⟨leqB, 2⟩], [exR]⟩
def exN : Rl := ⟨{ data := #[] }, [], [], [], [], 0⟩
theorem QkY : numR exR = ⟨{ data := #[] }, [], [leqG 0 1, leqG 1 0], [], [⟨3, { data := #[] }, [vT 0, vT 1]⟩], 2⟩ := by kernel_rfl
theorem QkF : Z9 exN = { data := #[] } := by kernel_rfl
theorem Qkt : Z9 exR = { data := #[108, 101, 113, 40, 86, 48, 44, 32, 86, 49, 41, 44, 32, 108, 101, 113, 40, 86, 49, 44, 32, 86, 48, 41, 32, 60, 61, 62, 32, 86, 48, 32, 61, 32, 86, 49, 46] } := by kernel_rfl
theorem Qkz : Z8 exP = { data := #[99, 111, 110, 115, 116, 114, 97, 105, 110, 116, 32, 108, 101, 113, 47, 50, 46, 10, 108, 101, 113, 40, 86, 48, 44, 32, 86, 49, 41, 44, 32, 108, 101, 113, 40, 86, 49, 44, 32, 86, 48, 41, 32, 60, 61, 62, 32, 86, 48, 32, 61, 32, 86, 49, 46, 10] } := by kernel_rfl
theorem QjI : Qaq exR.body = { data := #[86, 51, 32, 61, 32, 86, 52] } := by kernel_rfl
theorem Qc7 (i : Int) : Pure Tryz.prog 32 [.i i] (vT i).av := by
  intro h
  refine Qh Tryz.func32 rfl Tryz.call32 Tryz.ntmps32 (congrArg Array.toList Tryz.results32) (by simp) ?_
  repeat (first | (((with_reducible refine Qa fun K E hK hE => ?_)); simp -implicitDefEqProofs only [Qd, Qb, Qg, OpW, aop, undef, AS.ev, Qc, QY, Qq, Qk, QD, QlK, AV.Qk5, Qy, Q6, QM, QlX, QlY, QC, QA, QP, QlZ, ↓reduceIte, QlQ, QlR, Nat.reduceAdd, Nat.reduceLT, Nat.reduceLeDiff, Nat.reduceEqDiff, QlP, Qmb, Xj, Q0, Zp, ZB, QO, Yg, QlD, QlE, Ql7, QlF, QlS, QlW, Ql5, Ql4, QlO, QlV, QlM, QlU, ti69, zi69, sp69]) | (with_reducible refine Qn ?_) | ((with_reducible refine hK _ ?_); clear hK))
  simp -implicitDefEqProofs only [Qk, Qy, QM, ↓reduceIte, QlQ, QlR, Nat.reduceAdd, Nat.reduceEqDiff, QlP, Qmb, QO, QlD, QlJ, ti69, QK, QL, QO, QN, Qp, Qu, QlN]
  refine Qe (r' := (vT i).av) (htake _ _) ?_ ⟨rfl, rfl⟩
  exact .agg rfl (Qfn (.keep (.v _)) (Qfn (.keep (.v _)) (Qfn (.keep (.v _)) (QkK (.nil 4)))))
theorem QhH (x y : Int) : Pure Tryz.prog 31 [.i x, .i y] (leqG x y).atom := by
  intro h
  have c1 := Qc7 x
  have c2 := Qc7 y
  refine Qh Tryz.func31 rfl Tryz.call31 Tryz.ntmps31 (congrArg Array.toList Tryz.results31) (by simp) ?_
  repeat (first | ((first | (with_reducible (first | refine Qa fun K E hK hE => ?_ | refine Qs c1 ?_ | refine Qs c2 ?_))); simp -implicitDefEqProofs only [Qd, Qb, Qg, OpW, QR, aop, undef, AS.ev, Qc, QY, QF, Qk, QD, QlK, Ql3, AV.Qk5, Qy, Q6, Xs, QM, QlX, QlY, QC, QA, QP, QI, QlZ, ↓reduceIte, QlQ, QlR, Nat.reduceAdd, Nat.reduceLT, Nat.reduceLeDiff, Nat.reduceEqDiff, Nat.reduceMul, QlP, Qmb, Xj, Q0, Zp, ZB, Q7, QO, Yg, QlD, QlE, Ql7, QlF, QlS, QlW, Ql5, Ql4, Ql6, QlO, QlV, QlM, QlU, QlL, rng2, Xa, Nat.reducePow, T.Qk4, ei44, ti66, zi66, sp66, zi69, T.Qk4]) | (with_reducible refine Qn ?_) | ((with_reducible refine hK _ ?_); clear hK))
  simp -implicitDefEqProofs only [Qk, Qy, QM, ↓reduceIte, QlQ, QlR, Nat.reduceAdd, Nat.reduceEqDiff, QlP, Qmb, QO, QlD, QlJ, ti66, QK, QL, QO, QN, Qp, Qu, QlN]
  refine Qe (r' := (leqG x y).atom) (htake _ _) ?_ ⟨rfl, rfl⟩
  exact .keep (.agg _ (ZX _ (leqG x y)))
theorem Qku : WkL (flat [.agg [.v (.string { data := #[] }), .v (.slice none 0 0), .sl 2 [(leqG 3 4).atom, (leqG 4 3).atom] none, .v (.slice none 0 0), .sl 3 [.agg [.i 3, .v (.string { data := #[] }), .sl 4 [(vT 3).av, (vT 4).av] none]] none, .i 0]]) (flat [exR.av]) :=
  .cons (.refl _) (.cons (.nilS 2) (.cons (.refl _) (.cons (.nilS 3) (.cons (.refl _) (.cons (.refl _) .nil)))))
theorem QhR : exR.fits := by refine ⟨?_, ?_, ?_, ?_, ?_⟩ <;> decide
theorem QjG : exN.fits := by refine ⟨?_, ?_, ?_, ?_, ?_⟩ <;> decide
theorem QcR (h : AH) (hG : XO h) : Yd Tryz.prog 9 [] h fun o h' => o = .ret (.b true) ∧ h' = h := by
  have v3 := Qc7 3
  have v4 := Qc7 4
  have q1 := QhH 3 4
  have q2 := QhH 4 3
  obtain ⟨a1, a2, a3, a4, a5⟩ := QhR
  obtain ⟨b1, b2, b3, b4, b5⟩ := QjG
  have cn := QbO exR a1 a2 a3 a4 a5
  rw [QkY] at cn
  have c1 := fun L => Qb8 exR a1 a2 a3 a4 a5 (h ++ L) (hG.app L)
  have c2 := fun L => Qia (args := [.agg [.v (.string { data := #[] }), .v (.slice none 0 0), .v (.slice none 0 0), .v (.slice none 0 0), .v (.slice none 0 0), .i 0]]) (.cons (.agg (.cons (.refl _) (.cons (.nilS 2) (.cons (.nilS 2) (.cons (.nilS 3) (.cons (.nilS 3) (.cons (.refl _) .nil))))))) .nil) (Qb8 exN b1 b2 b3 b4 b5 (h ++ L) (hG.app L))
  have c3 : ∀ L, Yd Tryz.prog 16 [.agg [.sl 2 [.agg [.v (.string leqB), .i 2]] none, .sl 6 [exR.av] none]] (h ++ L) fun o h' => o = .ret (.v (.string (Z8 exP))) ∧ h' = h ++ L :=
    fun L => QcC exP (by decide) (by decide) (by intro r hr; rw [List.mem_singleton.1 hr]; exact QhR) (h ++ L) (hG.app L)
  have c4 := fun L => Qes exR.body a4 (h ++ L) (hG.app L)
  rw [Qkt] at c1
  rw [QkF] at c2
  rw [Qkz] at c3
  rw [QjI] at c4
  refine Qh Tryz.func9 rfl Tryz.call9 Tryz.ntmps9 (congrArg Array.toList Tryz.results9) (by simp) ?_
  iterate 8 (try (first | ((first | (with_reducible (first | refine Qa fun K E hK hE => ?_ | refine Qs v3 ?_ | refine Qs v4 ?_ | refine Qs q1 ?_ | refine Qs q2 ?_))); simp -implicitDefEqProofs only [Qd, Qb, Qg, OpW, QR, aop, undef, AS.ev, Qc, QY, Qq, Qr, Qk, QD, AV.Qk5, Qy, Q6, Xs, QM, QlX, QlY, QC, QA, QP, QI, QlZ, ↓reduceIte, QlQ, QlR, Nat.reduceAdd, Nat.reduceLT, Nat.reduceLeDiff, Nat.reduceEqDiff, Nat.reduceMul, QlP, Qmb, Xj, Q0, Zp, ZB, Q7, QO, Yg, QlD, QlE, Ql7, QlF, QlS, QlW, Ql5, Ql4, Ql6, QlO, QlV, QlM, QlU, QlL, rng1, rng2, Xa, Nat.reducePow, T.Qk4, ei22, ei23, ti25, zi25, sp25, ei44, zi53, sp53, zi66, zi69, T.Qk4, XB]) | ((with_reducible refine hK _ ?_); clear hK)))
  refine Qd6 h.length 25 6 _ [exR.av] (by simp only [QO, QlD]) (by intro x hx; simp at hx; subst hx; rfl) Qku ?_
  simp only [Yg, Ql7]
  clear v3 v4 q1 q2
  iterate 5 (try (first | ((first | (with_reducible (first | refine Qa fun K E hK hE => ?_ | refine Qs cn ?_))); simp -implicitDefEqProofs only [Qd, Qb, Qg, OpW, QR, aop, undef, AS.ev, Qc, QY, Qq, QF, Qk, QD, AV.Qk5, Qy, Q6, Xs, QM, QlX, QlY, QC, QA, QP, QI, QlZ, ↓reduceIte, QlQ, QlR, Nat.reduceAdd, Nat.reduceLT, Nat.reduceLeDiff, Nat.reduceEqDiff, Nat.reduceMul, QlP, Qmb, QK, QL, Xj, Q0, Zp, ZB, Q7, QO, hget, hset, hlen, happ, QlD, QlE, Ql7, Ql8, QlF, QlS, QlW, Ql5, Ql4, Ql6, QlO, QlV, QlM, QlU, QlL, rng1, Xa, Nat.reducePow, ti25, zi25, ei27, ei33, ti35, zi35, sp35, zi38, sp38, Rl.cells, Rl.isAgg]) | ((with_reducible refine hK _ ?_); clear hK)))
  have z2 : ((2 : Int) == 2) = true := by decide
  have z2' : (((2 : Nat) : Int) == 2) = true := by decide
  (with_reducible refine Qa fun K E hK hE => ?_)
  (try simp only [Qme]); refine Qz 4 (fun K1 hK1 => ?_); simp -implicitDefEqProofs only [Qb, Qg, OpW, aop, AS.ev, Qc, Qk, ↓reduceIte, QlQ, QlR, Nat.reduceAdd, Nat.reduceLT, Nat.reduceEqDiff, QlP, Qmb, QK, QL, QO, QlD, QlF, QlS, QlW, QlO, QlV, ti25, Rl.cells, Rl.isAgg]; (repeat ((((with_reducible refine FunW.ret (FunW.call (c1 _)) ?_)); simp -implicitDefEqProofs only [Qd, Qb, Qg, OpW, QR, aop, AS.ev, Qc, QF, Qk, ↓reduceIte, Nat.reduceLT, aBin, QlF, QZ, QlL]))); refine hK1 _ ?_; clear hK1
  (try simp only [QlM, QlU]); refine Qz 5 (fun K1 hK1 => ?_); simp -implicitDefEqProofs only [Qd, Qb, Qg, OpW, aop, AS.ev, Qc, Qq, Qk, ↓reduceIte, Nat.reduceLT, Nat.reduceEqDiff, QlP, Ql, QK, QL, aBin, hget, QlD, QlE, QlF, QlI, QlG, QlO, QlV, QS, QlL, ti3, Zo, Rl.cells]; refine hK1 _ ?_; clear hK1
  (try simp only [QlM, QlU]); refine Qz 5 (fun K1 hK1 => ?_); simp -implicitDefEqProofs only [Qd, Qb, Qg, OpW, aop, AS.ev, Qc, Qq, Qk, ↓reduceIte, QlQ, QlR, Nat.reduceAdd, Nat.reduceLT, Nat.reduceEqDiff, QlP, Ql, QK, QL, aBin, aLen, hget, QlD, QlE, QlF, QlI, QlG, QlO, QlV, QS, goInt, QlL, ti22, un22, X6, Rl.cells, QG, z2']; refine hK1 _ ?_; clear hK1
  (try simp only [QlM, QlU]); refine Qz 5 (fun K1 hK1 => ?_); simp -implicitDefEqProofs only [Qb, Qg, OpW, aop, AS.ev, Qc, Qk, Qy, QM, ↓reduceIte, QlQ, QlR, Nat.reduceAdd, Nat.reduceLT, Nat.reduceEqDiff, QlP, Qmb, QK, QL, hget, QlD, QlE, QlF, QlI, QlG, QlS, QlW, QlO, QlV, QlL, ti35]; (repeat ((((with_reducible refine FunW.ret (FunW.call (c3 _)) ?_)); simp -implicitDefEqProofs only [Qd, Qb, Qg, OpW, QR, aop, AS.ev, Qc, QF, Qk, ↓reduceIte, Nat.reduceLT, Nat.reduceEqDiff, aBin, QlD, QlE, QlF, QlI, QlG, QZ, QlL]))); refine hK1 _ ?_; clear hK1
  (try simp only [QlM, QlU]); refine Qz 6 (fun K1 hK1 => ?_); simp -implicitDefEqProofs only [Qb, Qg, OpW, aop, AS.ev, Qc, Qk, ↓reduceIte, Nat.reduceLT, Nat.reduceEqDiff, QlP, Ql, QK, QL, QO, QlD, QlE, QlF, QlI, QlG, QlS, QlW, QlO, QlV, QlL, ti23, XP, Rl.cells]; (repeat ((((with_reducible refine FunW.ret (FunW.call (c4 _)) ?_)); simp -implicitDefEqProofs only [Qd, Qb, Qg, OpW, QR, aop, AS.ev, Qc, QF, Qk, ↓reduceIte, Nat.reduceLT, Nat.reduceEqDiff, aBin, QlD, QlE, QlF, QlI, QlG, QZ, QlL]))); refine hK1 _ ?_; clear hK1
  (try simp only [QlM, QlU])
  simp -implicitDefEqProofs only [Qb, Qg, OpW, aop, undef, AS.ev, Qc, Qk, QD, AV.Qk5, Qy, QM, QlX, QlY, QC, QA, QP, QlZ, ↓reduceIte, Nat.reduceLT, Nat.reduceEqDiff, Qmb, Zp, ZB, QlD, QlE, QlF, QlI, QlG, QlS, QlW, QlL, zi25, sp25]
  repeat (first | (((with_reducible refine FunW.ret (FunW.call (c2 _)) ?_)); simp -implicitDefEqProofs only [Qd, Qb, Qg, OpW, QR, aop, AS.ev, Qc, QF, Qk, ↓reduceIte, Nat.reduceLT, Nat.reduceEqDiff, aBin, QlD, QlE, QlF, QlI, QlG, QZ, QlL]) | (with_reducible refine Qn ?_) | ((with_reducible refine hK _ ?_); clear hK))
  simp only [QN, Qp, Qu, upd, ↓reduceIte, QlJ, QlN]
  exact Qe (htake _ _) (.keep (.v _)) ⟨rfl, rfl⟩
end Go.Proofs.YtenheconhibonaaGreatDoor.Ab
set_option maxRecDepth 4000
namespace Go.Proofs.YtenheconhibonaaGreatDoor.Ab
open Go.Proofs
def i64 (n : Int) : Prop := -9223372036854775808 ≤ n ∧ n ≤ 9223372036854775807
mutual
def T.ok : T → Prop
  | .mk k i n l => i64 k ∧ i64 i ∧ n.size ≤ 9223372036854775807 ∧ oks l
def oks : List T → Prop
  | [] => True
  | t :: l => t.ok ∧ oks l
end
theorem T.ok_eq (t : T) : t.ok ↔ i64 t.kind ∧ i64 t.int ∧ t.name.size ≤ 9223372036854775807 ∧ oks t.args := by cases t; simp only [T.ok, T.kind, T.int, T.name, T.args]
theorem Qdk : ∀ {l : List T} {k : Nat} (h : k < l.length), oks l → (l[k]).ok
  | t :: l, 0, _, h => h.1
  | t :: l, k + 1, h, ho => Qdk (l := l) (by simpa using h) ho.2
theorem Zu (P : Program) (t : TypeId) (xo yo : Operand) (a : Int) : pv P (do eqGuard .quo t xo yo (.int .i64 a) (.int .i64 8); binOp .quo t (.int .i64 a) (.int .i64 8)) = some (.int .i64 (IntKind.i64.wrap (a.tdiv 8))) := rfl
def weighs (w : List T → Int → Int) : List T → Int → Int
  | [], n => n
  | t :: l, n => if n < 0 then n else weighs w l (w t.args (n - 1 - (t.name.size / 8 : Nat)))
def weigh : Nat → List T → Int → Int
  | 0, _, _ => -1
  | d + 1, l, n => if (l.length : Int) > n then -1 else weighs (weigh d) l n
theorem QcP (w : List T → Int → Int) (hw : ∀ l n, -1 ≤ w l n ∧ (w l n ≤ n ∨ w l n = -1)) : ∀ (l : List T) (n : Int), -1 ≤ n → -1 ≤ weighs w l n ∧ weighs w l n ≤ n
  | [], n, h => ⟨h, Int.le_refl _⟩
  | t :: l, n, h => by
    simp only [weighs]
    split
    · exact ⟨h, Int.le_refl _⟩
    · obtain ⟨h1, h2⟩ := hw t.args (n - 1 - (t.name.size / 8 : Nat))
      obtain ⟨h3, h4⟩ := QcP w hw l _ h1
      refine ⟨h3, ?_⟩
      omega
theorem ZG : ∀ (d : Nat) (l : List T) (n : Int), -1 ≤ weigh d l n ∧ (weigh d l n ≤ n ∨ weigh d l n = -1)
  | 0, l, n => ⟨Int.le_refl _, .inr rfl⟩
  | d + 1, l, n => by
    simp only [weigh]
    split
    · exact ⟨Int.le_refl _, .inr rfl⟩
    · obtain ⟨h1, h2⟩ := QcP (weigh d) (ZG d) l n (by omega)
      exact ⟨h1, .inl h2⟩
theorem Qef (w : List T → Int → Int) (hb : ∀ l n, -1 ≤ w l n) (hw : ∀ l n, 0 ≤ w l n → (ndsL l : Int) + w l n ≤ n) : ∀ (l : List T) (n : Int), 0 ≤ weighs w l n → (ndsL l : Int) + weighs w l n ≤ n
  | [], n, h => by simp [weighs, ndsL]
  | t :: l, n, h => by
    simp only [weighs] at h ⊢
    split at h
    · omega
    · rename_i hn
      rw [if_neg hn]
      have h1 := Qef w hb hw l _ h
      have h2 := hw t.args (n - 1 - (t.name.size / 8 : Nat)) (by
        rcases Int.lt_or_le (w t.args (n - 1 - (t.name.size / 8 : Nat))) 0 with h0 | h0
        · exfalso
          have : weighs w l (w t.args (n - 1 - (t.name.size / 8 : Nat))) = w t.args (n - 1 - (t.name.size / 8 : Nat)) := by
            cases l with
            | nil => rfl
            | cons a l => simp only [weighs, if_pos h0]
          omega
        · exact h0)
      have h3 := T.Qlc t
      simp only [ndsL]
      omega
theorem QfC : ∀ (d : Nat) (l : List T) (n : Int), 0 ≤ weigh d l n → (ndsL l : Int) + weigh d l n ≤ n
  | 0, l, n, h => by simp only [weigh] at h; omega
  | d + 1, l, n, h => by
    simp only [weigh] at h ⊢
    split at h
    · omega
    · rename_i hn
      rw [if_neg hn]
      exact Qef (weigh d) (fun l n => (ZG d l n).1) (QfC d) l n h
theorem QgM (w : List T → Int → Int) {r : List T} {n : Int} (h : n < 0) : weighs w r n = n := by
  cases r with
  | nil => rfl
  | cons a r => simp only [weighs, if_pos h]
theorem Qcq : ∀ (d : Nat), d ≤ 64 → ∀ (l : List T) (n : Int), oks l → -2305843009213693952 ≤ n → n ≤ 1000000 → Pure Tryz.prog 52 [.sl 4 (avs l) none, .i n, .i d] (.i (weigh d l n))
  | 0, _, l, n, ho, hn1, hn2 => by
    intro h
    refine Qh Tryz.func52 rfl Tryz.call52 Tryz.ntmps52 (congrArg Array.toList Tryz.results52) (by simp) ?_
    repeat (first | (((with_reducible refine Qa fun K E hK hE => ?_)); simp -implicitDefEqProofs only [Qd, Qb, Qg, OpW, aop, undef, AS.ev, Qc, Qq, Qr, Qk, QD, QlK, Ql3, Ql0, ↓reduceIte, Nat.reduceLT, Nat.reduceEqDiff, aBin, QlD, QlE, QlF, QlI, QlG, QS, QlL, Qmp, beq_false]) | (with_reducible (first | refine Qi fun K hK => ?_ | refine Qn ?_ | refine QB ?_)) | ((with_reducible refine hK _ ?_); clear hK) | (refine Qj rfl ?_; simp only [↓reduceIte]))
    simp only [QN, Qp, Qu, upd, ↓reduceIte, QlJ, QlN]; first | refine Qe (htake _ _) (.keep (.v _)) ⟨rfl, rfl⟩ | refine Qe List.take_length (.keep (.v _)) ⟨rfl, rfl⟩
  | d + 1, hd, l, n, ho, hn1, hn2 => by
    intro h
    have hd0 : (((d + 1 : Nat) : Int) == 0) = false := by rw [beq_eq_false_iff_ne]; omega
    have hwd : IntKind.i64.wrap (((d + 1 : Nat) : Int) - 1) = (d : Int) := by rw [Yh (by omega)]; omega
    by_cases hc : (l.length : Int) > n
    · refine Qh Tryz.func52 rfl Tryz.call52 Tryz.ntmps52 (congrArg Array.toList Tryz.results52) (by simp) ?_
      repeat (first | (((with_reducible refine Qa fun K E hK hE => ?_)); simp -implicitDefEqProofs only [Qd, Qb, Qg, OpW, aop, undef, AS.ev, Qc, Qq, Qk, QD, QlK, Ql3, ↓reduceIte, Nat.reduceLT, Nat.reduceEqDiff, aBin, aLen, QlD, QlE, QlF, QlI, QlG, QS, Q1, goInt, Ql9, QlL, QlH, QE, un44, hd0, hc]) | (with_reducible (first | refine Qi fun K hK => ?_ | refine Qn ?_ | refine QB ?_)) | ((with_reducible refine hK _ ?_); clear hK) | (refine Qj rfl ?_; simp only [↓reduceIte]))
      simp only [QN, Qp, Qu, upd, ↓reduceIte, QlJ, QlN]; first | refine Qe (htake _ _) (.keep (.v _)) ⟨by simp only [weigh, if_pos hc], rfl⟩ | refine Qe List.take_length (.keep (.v _)) ⟨by simp only [weigh, if_pos hc], rfl⟩
    · have hw : weigh (d + 1) l n = weighs (weigh d) l n := by simp only [weigh, if_neg hc]
      refine Qh Tryz.func52 rfl Tryz.call52 Tryz.ntmps52 (congrArg Array.toList Tryz.results52) (by simp) ?_
      repeat (first | (((with_reducible refine Qa fun K E hK hE => ?_)); simp -implicitDefEqProofs only [Qd, Qb, Qg, OpW, aop, undef, AS.ev, Qc, Qq, Qk, QD, QlK, Ql3, ↓reduceIte, Nat.reduceLT, Nat.reduceEqDiff, aBin, aLen, QlD, QlE, QlF, QlI, QlG, QS, Q1, goInt, Qma, QlL, QlH, QE, un44, hd0, hc]) | (with_reducible (first | refine Qi fun K hK => ?_ | refine Qm ?_ | refine Qv ?_ | refine Qf ?_)) | ((with_reducible refine hK _ ?_); clear hK) | (refine Qj rfl ?_; simp only [↓reduceIte, QlH]))
      obtain ⟨I, hI⟩ : ∃ I : Nat → AS → Prop, I = fun m' s => ∃ (j : Nat) (a : Int), m' = l.length - j ∧ j ≤ l.length ∧ -1 ≤ a ∧ a ≤ n ∧ weighs (weigh d) l n = weighs (weigh d) (l.drop j) a ∧ s.tm 0 = .sl 4 (avs l) none ∧ s.tm 1 = .i a ∧ s.tm 2 = .i ((d + 1 : Nat) : Int) ∧ s.tm 7 = .i j ∧ s.h = h := ⟨_, rfl⟩; refine Q9 I ?_ (m := l.length) ?_
      · intro m' s hs; rw [hI] at hs; obtain ⟨tm, hp⟩ := s; dsimp only at hs; obtain ⟨j, a, rfl, hj, ha1, ha2, he, t0, t1, t2, t7, rfl⟩ := hs
        by_cases hlt : j < l.length
        · rw [List.drop_eq_getElem_cons hlt] at he
          by_cases ha : a ≥ 0
          · obtain ⟨o1, o2, o3, o4⟩ := (T.ok_eq _).1 (Qdk hlt ho)
            simp only [weighs, if_neg (show ¬ a < 0 by omega)] at he
            have hq : ((l[j].name.size : Int)).tdiv 8 = ((l[j].name.size / 8 : Nat) : Int) := by
              rw [Int.tdiv_eq_ediv_of_nonneg (by omega)]; omega
            have hw1 : IntKind.i64.wrap (a - 1) = a - 1 := Yh (by omega)
            have hw2 : IntKind.i64.wrap (((l[j].name.size / 8 : Nat) : Int)) = ((l[j].name.size / 8 : Nat) : Int) := Yh (by omega)
            have hw3 : IntKind.i64.wrap (a - 1 - ((l[j].name.size / 8 : Nat) : Int)) = a - 1 - ((l[j].name.size / 8 : Nat) : Int) := Yh (by omega)
            have hr := Qcq d (by omega) l[j].args (a - 1 - ((l[j].name.size / 8 : Nat) : Int)) o4 (by omega) (by omega)
            have hrb := ZG d l[j].args (a - 1 - ((l[j].name.size / 8 : Nat) : Int))
            have hsl := fun s => Z4 Tryz.prog 9 3 (by kernel_rfl) s
            repeat (first | ((first | (with_reducible (first | refine Qa fun K E hK hE => ?_ | refine Qo fun K E hK hE => ?_ | refine QQ hr ?_)) | (refine XH (id := 6) [(0, 0), (1, 0), (2, 0), (3, 0), (4, 0), (5, 0), (6, 0), (7, 0), (8, 0), (9, 0), (10, 0), (11, 0), (12, 0), (13, 0), (14, 0), (15, 0), (16, 0), (17, 1), (18, 0)] mixed (by kernel_rfl) fun K hK => ?_)); simp -implicitDefEqProofs only [Xk, Xd, Xw, Qd, Qb, Qg, OpW, aop, AS.ev, Qc, Qq, Qk, ↓reduceIte, Nat.reduceLT, Nat.reduceLeDiff, Nat.reduceEqDiff, QlP, Qmb, Ql, QK, QL, QJ, aBin, aLen, QlD, QlE, QlF, QlI, QlG, QlS, QlW, QW, Yl, Xf, YA, goInt, Ql9, QlL, Qmg, Qmf, Qmr, T.Qk4, QE, ti9, ti44, ei44, un44, XM, XN, t0, t1, t2, t7, hlt, ha, Y0 hlt, hsl, Zu, hq, hw1, hw2, hw3, hwd]) | (with_reducible (first | refine Qi fun K hK => ?_ | refine Qm ?_ | refine Qv ?_ | refine Qf ?_ | refine Qw ?_)) | ((with_reducible refine hK _ ?_); clear hK) | (refine Qj rfl ?_; simp only [↓reduceIte]))
            refine XD.mk (m' := l.length - (j + 1)) (by omega) ?_
            rw [hI]
            refine ⟨j + 1, _, rfl, hlt, ?_, ?_, he, t0, rfl, t2, ?_, rfl⟩
            · exact hrb.1
            · omega
            · simp only [upd, ↓reduceIte]
              rw [Xe (by omega)]
          · have he2 : weigh (d + 1) l n = a := by rw [hw, he, QgM _ (by omega)]
            repeat (first | (((with_reducible refine Qa fun K E hK hE => ?_)); simp -implicitDefEqProofs only [Qd, Qb, Qg, OpW, aop, AS.ev, Qc, Qq, Qk, ↓reduceIte, Nat.reduceLT, Nat.reduceEqDiff, aBin, aLen, QlD, QlE, QlF, QlI, QlG, QW, Yl, goInt, Ql9, Qma, QlL, Qmr, QE, un44, t0, t1, t7, hlt, ha]) | (with_reducible (first | refine Qi fun K hK => ?_ | refine Qn ?_ | refine Q2 ?_ | refine Qf ?_ | refine QU ?_ | refine QV ?_)) | ((with_reducible refine hK _ ?_); clear hK) | (clear hK; (with_reducible refine hK _ ?_); clear hK) | (refine Qj rfl ?_; simp only [↓reduceIte, QlH]))
            simp only [QN, Qp, Qu, upd, ↓reduceIte, QlJ, QlN]
            exact Qe List.take_length (.keep (.v _)) ⟨by rw [he2], rfl⟩
        · have hjl : j = l.length := by omega
          have he2 : weigh (d + 1) l n = a := by rw [hw, he, hjl, List.drop_length]; rfl
          repeat (first | (((with_reducible refine Qa fun K E hK hE => ?_)); simp -implicitDefEqProofs only [Qd, Qb, Qg, OpW, aop, undef, AS.ev, Qc, Qr, Qk, ↓reduceIte, Nat.reduceLT, Nat.reduceEqDiff, aBin, aLen, QlD, QlE, QlF, QlI, QlG, QW, goInt, Qma, Qmr, QlH, beq_true, QE, un44, t0, t1, t7, hlt]) | (with_reducible (first | refine Qi fun K hK => ?_ | refine Qn ?_ | refine Q2 ?_ | refine Qf ?_ | refine QU ?_ | refine QV ?_)) | ((with_reducible refine hK _ ?_); clear hK) | (clear hK; (with_reducible refine hK _ ?_); clear hK) | (refine Qj rfl ?_; simp only [↓reduceIte, QlH]))
          simp only [QN, Qp, Qu, upd, ↓reduceIte, QlJ, QlN]
          exact Qe List.take_length (.keep (.v _)) ⟨by rw [he2], rfl⟩
      · rw [hI]
        exact ⟨0, n, by omega, Nat.zero_le _, by omega, Int.le_refl _, by rw [List.drop_zero], rfl, rfl, rfl, rfl, rfl⟩
def G.ok (g : G) : Prop := i64 g.op ∧ g.name.size ≤ 9223372036854775807 ∧ oks g.args
def Yu : List G → Int → Int
  | [], n => n
  | g :: l, n => if n < 0 then n else Yu l (weigh 64 g.args (n - 1 - (g.name.size / 8 : Nat)))
def ndsG : List G → Nat
  | [] => 0
  | g :: l => ndsL g.args + ndsG l
theorem QdE : ∀ (l : List G) (n : Int), 0 ≤ Yu l n → (ndsG l : Int) ≤ n
  | [], n, h => by simpa [Yu, ndsG] using h
  | g :: l, n, h => by
    simp only [Yu] at h
    split at h
    · omega
    · have h1 := QdE l _ h
      have h2 := QfC 64 g.args (n - 1 - (g.name.size / 8 : Nat)) (by omega)
      simp only [ndsG]
      omega
theorem Qdv {l : List G} {n : Int} (h : n < 0) : Yu l n = n := by
  cases l with
  | nil => rfl
  | cons g l => simp only [Yu, if_pos h]
theorem Qa2 (l : List G) (n : Int) (ho : ∀ g ∈ l, g.ok) (hb : l.length ≤ 9223372036854775807) (hn1 : -1 ≤ n) (hn2 : n ≤ 1000000) : Pure Tryz.prog 78 [.sl 2 (vs G.atom l) none, .i n] (.b (decide (Yu l n < 0))) := by
  intro h
  refine Qh Tryz.func78 rfl Tryz.call78 Tryz.ntmps78 (congrArg Array.toList Tryz.results78) (by simp) ?_
  repeat (first | (((with_reducible refine Qa fun K E hK hE => ?_)); simp -implicitDefEqProofs only [Qd, Qb, Qg, OpW, aop, AS.ev, Qc, Qq, Qr, Nat.reduceLT]) | (with_reducible (first | refine Qi fun K hK => ?_ | refine Qm ?_)) | ((with_reducible refine hK _ ?_); clear hK))
  obtain ⟨I, hI⟩ : ∃ I : Nat → AS → Prop, I = fun m' s => ∃ (j : Nat) (a : Int), m' = l.length - j ∧ j ≤ l.length ∧ -1 ≤ a ∧ a ≤ n ∧ Yu l n = Yu (l.drop j) a ∧ s.tm 0 = .sl 2 (vs G.atom l) none ∧ s.tm 1 = .i a ∧ s.tm 5 = .i j ∧ s.h = h := ⟨_, rfl⟩; refine Q9 I ?_ (m := l.length) ?_
  · intro m' s hs; rw [hI] at hs; obtain ⟨tm, hp⟩ := s; dsimp only at hs; obtain ⟨j, a, rfl, hj, ha1, ha2, he, t0, t1, t5, rfl⟩ := hs
    by_cases hlt : j < l.length
    · rw [List.drop_eq_getElem_cons hlt] at he
      by_cases ha : a ≥ 0
      · obtain ⟨_, o3, o4⟩ := ho _ (List.getElem_mem hlt)
        simp only [Yu, if_neg (show ¬ a < 0 by omega)] at he
        have hq : ((l[j].name.size : Int)).tdiv 8 = ((l[j].name.size / 8 : Nat) : Int) := by
          rw [Int.tdiv_eq_ediv_of_nonneg (by omega)]; omega
        have hw1 : IntKind.i64.wrap (a - 1) = a - 1 := Yh (by omega)
        have hw2 : IntKind.i64.wrap (((l[j].name.size / 8 : Nat) : Int)) = ((l[j].name.size / 8 : Nat) : Int) := Yh (by omega)
        have hw3 : IntKind.i64.wrap (a - 1 - ((l[j].name.size / 8 : Nat) : Int)) = a - 1 - ((l[j].name.size / 8 : Nat) : Int) := Yh (by omega)
        have hr := Qcq 64 (by omega) l[j].args (a - 1 - ((l[j].name.size / 8 : Nat) : Int)) o4 (by omega) (by omega)
        have hrb := ZG 64 l[j].args (a - 1 - ((l[j].name.size / 8 : Nat) : Int))
        have hsl := fun s => Z4 Tryz.prog 9 3 (by kernel_rfl) s
        have h64 : ((64 : Nat) : Int) = 64 := rfl
        rw [h64] at hr
        repeat (first | ((first | (with_reducible (first | refine Qa fun K E hK hE => ?_ | refine Qo fun K E hK hE => ?_ | refine QQ hr ?_)) | (refine XH (id := 4) [(0, 0), (1, 0), (2, 0), (3, 0), (4, 0), (5, 0), (6, 0), (7, 0), (8, 0), (9, 0), (10, 0), (11, 0), (12, 0), (13, 0), (14, 0), (15, 1), (16, 0)] mixed (by kernel_rfl) fun K hK => ?_)); simp -implicitDefEqProofs only [Xk, Xd, Xw, Qd, Qb, Qg, OpW, aop, AS.ev, Qc, Qq, Qk, Qy, ↓reduceIte, Nat.reduceLT, Nat.reduceLeDiff, Nat.reduceEqDiff, QlP, Ql2, Qmb, Ql, QK, QL, QJ, aBin, aLen, QlD, QlE, QlF, QlI, QlG, QlS, QlW, QW, Yl, Xf, YA, goInt, Ql9, QlL, Qmg, Qmf, Qmr, ti9, ei22, un22, ti44, YQ, YM, t0, t1, t5, hlt, ha, QG, YN G.atom hlt, G.atom, hsl, Zu, hq, hw1, hw2, hw3]) | (with_reducible (first | refine Qi fun K hK => ?_ | refine Qm ?_ | refine Qv ?_ | refine Qf ?_ | refine Qw ?_)) | ((with_reducible refine hK _ ?_); clear hK) | (refine Qj rfl ?_; simp only [↓reduceIte]))
        refine XD.mk (m' := l.length - (j + 1)) (by omega) ?_
        rw [hI]
        refine ⟨j + 1, _, rfl, hlt, ?_, ?_, he, t0, rfl, ?_, rfl⟩
        · exact hrb.1
        · omega
        · simp only [upd, ↓reduceIte]
          rw [Xe (by omega)]
      · have he2 : Yu l n = a := by rw [he, Qdv (by omega)]
        repeat (first | (((with_reducible refine Qa fun K E hK hE => ?_)); simp -implicitDefEqProofs only [Qd, Qb, Qg, OpW, aop, AS.ev, Qc, Qq, Qk, ↓reduceIte, Nat.reduceLT, Nat.reduceEqDiff, aBin, aLen, QlD, QlE, QlF, QlI, QlG, QW, Yl, goInt, Ql9, Qma, QlL, Qmr, un22, t0, t1, t5, hlt, ha, QG]) | (with_reducible (first | refine Qi fun K hK => ?_ | refine Qn ?_ | refine Q2 ?_ | refine Qf ?_ | refine QU ?_ | refine QV ?_)) | ((with_reducible refine hK _ ?_); clear hK) | (clear hK; (with_reducible refine hK _ ?_); clear hK) | (refine Qj rfl ?_; simp only [↓reduceIte, QlH]))
        simp only [QN, Qp, Qu, upd, ↓reduceIte, QlJ, QlN]
        exact Qe List.take_length (.keep (.v _)) ⟨by rw [he2], rfl⟩
    · have hjl : l.drop j = [] := List.drop_eq_nil_of_le (by omega)
      have he2 : Yu l n = a := by rw [he, hjl]; rfl
      repeat (first | (((with_reducible refine Qa fun K E hK hE => ?_)); simp -implicitDefEqProofs only [Qd, Qb, Qg, OpW, aop, undef, AS.ev, Qc, Qq, Qr, Qk, ↓reduceIte, Nat.reduceLT, Nat.reduceEqDiff, aBin, aLen, QlD, QlE, QlF, QlI, QlG, QW, goInt, Qma, Qmr, QlH, beq_true, un22, t0, t1, t5, hlt, QG]) | (with_reducible (first | refine Qi fun K hK => ?_ | refine Qn ?_ | refine Q2 ?_ | refine Qf ?_ | refine QU ?_ | refine QV ?_)) | ((with_reducible refine hK _ ?_); clear hK) | (clear hK; (with_reducible refine hK _ ?_); clear hK) | (refine Qj rfl ?_; simp only [↓reduceIte, QlH]))
      simp only [QN, Qp, Qu, upd, ↓reduceIte, QlJ, QlN]
      exact Qe List.take_length (.keep (.v _)) ⟨by rw [he2], rfl⟩
  · rw [hI]
    exact ⟨0, n, by omega, Nat.zero_le _, hn1, Int.le_refl _, by rw [List.drop_zero], rfl, rfl, rfl, rfl⟩
theorem Z7 (l : List G) (n : Int) (ho : ∀ g ∈ l, g.ok) (hb : l.length ≤ 9223372036854775807) (hn1 : -1 ≤ n) (hn2 : n ≤ 1000000) : Pure Tryz.prog 15 [.sl 3 (vs G.goal l) none, .i n] (.b (decide (Yu l n < 0))) := by
  intro h
  refine Qh Tryz.func15 rfl Tryz.call15 Tryz.ntmps15 (congrArg Array.toList Tryz.results15) (by simp) ?_
  repeat (first | (((with_reducible refine Qa fun K E hK hE => ?_)); simp -implicitDefEqProofs only [Qd, Qb, Qg, OpW, aop, AS.ev, Qc, Qq, Qr, Nat.reduceLT]) | (with_reducible (first | refine Qi fun K hK => ?_ | refine Qm ?_)) | ((with_reducible refine hK _ ?_); clear hK))
  obtain ⟨I, hI⟩ : ∃ I : Nat → AS → Prop, I = fun m' s => ∃ (j : Nat) (a : Int), m' = l.length - j ∧ j ≤ l.length ∧ -1 ≤ a ∧ a ≤ n ∧ Yu l n = Yu (l.drop j) a ∧ s.tm 0 = .sl 3 (vs G.goal l) none ∧ s.tm 1 = .i a ∧ s.tm 5 = .i j ∧ s.h = h := ⟨_, rfl⟩; refine Q9 I ?_ (m := l.length) ?_
  · intro m' s hs; rw [hI] at hs; obtain ⟨tm, hp⟩ := s; dsimp only at hs; obtain ⟨j, a, rfl, hj, ha1, ha2, he, t0, t1, t5, rfl⟩ := hs
    by_cases hlt : j < l.length
    · rw [List.drop_eq_getElem_cons hlt] at he
      by_cases ha : a ≥ 0
      · obtain ⟨_, o3, o4⟩ := ho _ (List.getElem_mem hlt)
        simp only [Yu, if_neg (show ¬ a < 0 by omega)] at he
        have hq : ((l[j].name.size : Int)).tdiv 8 = ((l[j].name.size / 8 : Nat) : Int) := by
          rw [Int.tdiv_eq_ediv_of_nonneg (by omega)]; omega
        have hw1 : IntKind.i64.wrap (a - 1) = a - 1 := Yh (by omega)
        have hw2 : IntKind.i64.wrap (((l[j].name.size / 8 : Nat) : Int)) = ((l[j].name.size / 8 : Nat) : Int) := Yh (by omega)
        have hw3 : IntKind.i64.wrap (a - 1 - ((l[j].name.size / 8 : Nat) : Int)) = a - 1 - ((l[j].name.size / 8 : Nat) : Int) := Yh (by omega)
        have hr := Qcq 64 (by omega) l[j].args (a - 1 - ((l[j].name.size / 8 : Nat) : Int)) o4 (by omega) (by omega)
        have hrb := ZG 64 l[j].args (a - 1 - ((l[j].name.size / 8 : Nat) : Int))
        have hsl := fun s => Z4 Tryz.prog 9 3 (by kernel_rfl) s
        have h64 : ((64 : Nat) : Int) = 64 := rfl
        rw [h64] at hr
        repeat (first | ((first | (with_reducible (first | refine Qa fun K E hK hE => ?_ | refine Qo fun K E hK hE => ?_ | refine QQ hr ?_)) | (refine XH (id := 4) [(0, 0), (1, 0), (2, 0), (3, 0), (4, 0), (5, 0), (6, 0), (7, 0), (8, 0), (9, 0), (10, 0), (11, 0), (12, 0), (13, 0), (14, 0), (15, 1), (16, 0)] mixed (by kernel_rfl) fun K hK => ?_)); simp -implicitDefEqProofs only [Xk, Xd, Xw, Qd, Qb, Qg, OpW, aop, AS.ev, Qc, Qq, Qk, Qy, ↓reduceIte, Nat.reduceLT, Nat.reduceLeDiff, Nat.reduceEqDiff, QlP, Qmb, Ql, QK, QL, QJ, aBin, aLen, QlD, QlE, QlF, QlI, QlG, QlS, QlW, QW, Yl, Xf, YA, goInt, Ql9, QlL, Qmg, Qmf, Qmr, ti9, ei23, un23, ti44, Yy, Ya, t0, t1, t5, hlt, ha, QG, YN G.goal hlt, G.goal, hsl, Zu, hq, hw1, hw2, hw3]) | (with_reducible (first | refine Qi fun K hK => ?_ | refine Qm ?_ | refine Qv ?_ | refine Qf ?_ | refine Qw ?_)) | ((with_reducible refine hK _ ?_); clear hK) | (refine Qj rfl ?_; simp only [↓reduceIte]))
        refine XD.mk (m' := l.length - (j + 1)) (by omega) ?_
        rw [hI]
        refine ⟨j + 1, _, rfl, hlt, ?_, ?_, he, t0, rfl, ?_, rfl⟩
        · exact hrb.1
        · omega
        · simp only [upd, ↓reduceIte]
          rw [Xe (by omega)]
      · have he2 : Yu l n = a := by rw [he, Qdv (by omega)]
        repeat (first | (((with_reducible refine Qa fun K E hK hE => ?_)); simp -implicitDefEqProofs only [Qd, Qb, Qg, OpW, aop, AS.ev, Qc, Qq, Qk, ↓reduceIte, Nat.reduceLT, Nat.reduceEqDiff, aBin, aLen, QlD, QlE, QlF, QlI, QlG, QW, Yl, goInt, Ql9, Qma, QlL, Qmr, un23, t0, t1, t5, hlt, ha, QG]) | (with_reducible (first | refine Qi fun K hK => ?_ | refine Qn ?_ | refine Q2 ?_ | refine Qf ?_ | refine QU ?_ | refine QV ?_)) | ((with_reducible refine hK _ ?_); clear hK) | (clear hK; (with_reducible refine hK _ ?_); clear hK) | (refine Qj rfl ?_; simp only [↓reduceIte, QlH]))
        simp only [QN, Qp, Qu, upd, ↓reduceIte, QlJ, QlN]
        exact Qe List.take_length (.keep (.v _)) ⟨by rw [he2], rfl⟩
    · have hjl : l.drop j = [] := List.drop_eq_nil_of_le (by omega)
      have he2 : Yu l n = a := by rw [he, hjl]; rfl
      repeat (first | (((with_reducible refine Qa fun K E hK hE => ?_)); simp -implicitDefEqProofs only [Qd, Qb, Qg, OpW, aop, undef, AS.ev, Qc, Qq, Qr, Qk, ↓reduceIte, Nat.reduceLT, Nat.reduceEqDiff, aBin, aLen, QlD, QlE, QlF, QlI, QlG, QW, goInt, Qma, Qmr, QlH, beq_true, un23, t0, t1, t5, hlt, QG]) | (with_reducible (first | refine Qi fun K hK => ?_ | refine Qn ?_ | refine Q2 ?_ | refine Qf ?_ | refine QU ?_ | refine QV ?_)) | ((with_reducible refine hK _ ?_); clear hK) | (clear hK; (with_reducible refine hK _ ?_); clear hK) | (refine Qj rfl ?_; simp only [↓reduceIte, QlH]))
      simp only [QN, Qp, Qu, upd, ↓reduceIte, QlJ, QlN]
      exact Qe List.take_length (.keep (.v _)) ⟨by rw [he2], rfl⟩
  · rw [hI]
    exact ⟨0, n, by omega, Nat.zero_le _, hn1, Int.le_refl _, by rw [List.drop_zero], rfl, rfl, rfl, rfl⟩
end Go.Proofs.YtenheconhibonaaGreatDoor.Ab
set_option maxRecDepth 4000
namespace Go.Proofs.YtenheconhibonaaGreatDoor.Ab
open Go.Proofs
def Rl.ok (r : Rl) : Prop := r.name.size ≤ 9223372036854775807 ∧ r.keep.length ≤ 9223372036854775807 ∧ r.remove.length ≤ 9223372036854775807 ∧ r.guard.length ≤ 9223372036854775807 ∧ r.body.length ≤ 9223372036854775807 ∧
  (∀ g ∈ r.keep, g.ok) ∧ (∀ g ∈ r.remove, g.ok) ∧ (∀ g ∈ r.guard, g.ok) ∧ (∀ g ∈ r.body, g.ok)
def Zx (r : Rl) : Bool := decide (300 < r.name.size / 8 + r.keep.length + r.remove.length) || (decide (Yu r.keep 300 < 0) || (decide (Yu r.remove 300 < 0) || (decide (Yu r.guard 300 < 0) || decide (Yu r.body 300 < 0))))
theorem Qbv : ∀ (l : List G) (n : Int), 0 ≤ Yu l n → (l.length : Int) ≤ n
  | [], n, h => by simpa [Yu] using h
  | g :: l, n, h => by
    simp only [Yu] at h
    split at h
    · omega
    · have h1 := Qbv l _ h
      have h2 := (ZG 64 g.args (n - 1 - (g.name.size / 8 : Nat))).2
      simp only [QlQ]
      omega
theorem QiU {r : Rl} (o1 : r.name.size ≤ 9223372036854775807) (o2 : r.keep.length ≤ 9223372036854775807) (o3 : r.remove.length ≤ 9223372036854775807) :
    (IntKind.i64.wrap (IntKind.i64.wrap (((r.name.size / 8 : Nat) : Int) + r.keep.length) + r.remove.length) > 300 → Zx r = true) ∧
    (¬ IntKind.i64.wrap (IntKind.i64.wrap (((r.name.size / 8 : Nat) : Int) + r.keep.length) + r.remove.length) > 300 → Zx r = (decide (Yu r.keep 300 < 0) || (decide (Yu r.remove 300 < 0) || (decide (Yu r.guard 300 < 0) || decide (Yu r.body 300 < 0))))) := by
  by_cases hn : 300 < r.name.size / 8 + r.keep.length + r.remove.length
  · have R : Zx r = true := by rw [Zx, decide_eq_true hn]; rfl
    refine ⟨fun _ => R, fun hz => ?_⟩
    have hbig : 300 < r.keep.length ∨ 300 < r.remove.length := by
      apply Classical.byContradiction
      intro hc
      rw [Yh (n := ((r.name.size / 8 : Nat) : Int) + r.keep.length) (by omega), Yh (by omega)] at hz
      omega
    rw [R]
    rcases hbig with hb | hb
    · have : Yu r.keep 300 < 0 := by
        apply Classical.byContradiction
        intro hc
        have := Qbv r.keep 300 (by omega)
        omega
      rw [decide_eq_true this]; rfl
    · have : Yu r.remove 300 < 0 := by
        apply Classical.byContradiction
        intro hc
        have := Qbv r.remove 300 (by omega)
        omega
      rw [decide_eq_true this]; simp
  · rw [Yh (n := ((r.name.size / 8 : Nat) : Int) + r.keep.length) (by omega), Yh (by omega)]
    exact ⟨fun hz => by omega, fun _ => by rw [Zx, decide_eq_false hn, Bool.false_or]⟩
theorem QdM (l : List Rl) (hl : l.length ≤ 45) (ho : ∀ r ∈ l, r.ok) : Pure Tryz.prog 30 [.sl 6 (vs Rl.av l) none, .i 300] (.b (l.any Zx)) := by
  intro h
  have w0 : ¬ (l.length : Int) > 300 := by omega
  have hsl := fun s => Z4 Tryz.prog 9 3 Qin s
  refine Qh Tryz.func30 rfl Tryz.call30 Tryz.ntmps30 (congrArg Array.toList Tryz.results30) (by simp) ?_
  repeat (first | (((with_reducible refine Qa fun K E hK hE => ?_)); simp -implicitDefEqProofs only [Qd, Qb, Qg, OpW, aop, AS.ev, Qc, Qq, Qr, Nat.reduceLT]) | (with_reducible (first | refine Qi fun K hK => ?_ | refine Qm ?_)) | ((with_reducible refine hK _ ?_); clear hK))
  obtain ⟨I, hI⟩ : ∃ I : Nat → AS → Prop, I = fun m' s => ∃ (k : Nat), m' = l.length - k ∧ k ≤ l.length ∧ l.any Zx = (l.drop k).any Zx ∧ s.tm 0 = .sl 6 (vs Rl.av l) none ∧ s.tm 1 = .i 300 ∧ s.tm 5 = .i k ∧ (∃ L, s.h = h ++ L) := ⟨_, rfl⟩; refine Q9 I ?_ (m := l.length) ?_
  · intro m' s hs; rw [hI] at hs; obtain ⟨tm, hp⟩ := s; dsimp only at hs; obtain ⟨k, rfl, hk, he, t0, t1, t5, L, rfl⟩ := hs
    by_cases hlt : k < l.length
    · have hg := YN Rl.av hlt
      have z1 : (k : Int) < l.length := by omega
      rw [List.drop_eq_getElem_cons hlt, List.any_cons] at he
      obtain ⟨r, er⟩ : ∃ r, r = l[k] := ⟨_, rfl⟩
      obtain ⟨o1, o2, o3, o4, o5, p1, p2, p3, p4⟩ := ho l[k] (List.getElem_mem hlt)
      rw [← er] at hg he o1 o2 o3 o4 o5 p1 p2 p3 p4
      have c1 := Qa2 r.keep 300 p1 (by omega) (by omega) (by omega)
      have c2 := Qa2 r.remove 300 p2 (by omega) (by omega) (by omega)
      have c3 := Z7 r.guard 300 p3 (by omega) (by omega) (by omega)
      have c4 := Z7 r.body 300 p4 (by omega) (by omega) (by omega)
      have hq : ((r.name.size : Int)).tdiv 8 = ((r.name.size / 8 : Nat) : Int) := by rw [Int.tdiv_eq_ediv_of_nonneg (by omega)]; omega
      have hw2 : IntKind.i64.wrap (((r.name.size / 8 : Nat) : Int)) = ((r.name.size / 8 : Nat) : Int) := Yh (by omega)
      obtain ⟨key1, key2⟩ := QiU o1 o2 o3
      obtain ⟨a3, hw3⟩ : ∃ a, IntKind.i64.wrap (((r.name.size / 8 : Nat) : Int) + r.keep.length) = a := ⟨_, rfl⟩
      rw [hw3] at key1 key2
      obtain ⟨a4, hw4⟩ : ∃ a, IntKind.i64.wrap (a3 + r.remove.length) = a := ⟨_, rfl⟩
      rw [hw4] at key1 key2
      iterate 11 (try (first | (((with_reducible refine Qa fun K E hK hE => ?_)); simp -implicitDefEqProofs only [Qd, Qb, Qg, OpW, aop, undef, AS.ev, Qc, QY, Qk, AV.Qk5, Qy, QM, QlX, QlY, QC, QA, QP, QI, QlZ, ↓reduceIte, QlQ, QlR, Nat.reduceAdd, Nat.reduceLT, Nat.reduceEqDiff, QlP, Qmb, QK, QL, Xj, Q0, QJ, aBin, aLen, QO, hget, Yg, hset, hlen, happ, QlD, Ql7, QlF, QW, goInt, Ql9, Qmg, Qmf, ti25, zi25, ei27, un27, t0, t5, z1, hg, QG, Rl.cells, Rl.isAgg]) | (with_reducible (first | refine Qi fun K hK => ?_ | refine Qm ?_ | refine Qv ?_ | refine Qf ?_)) | ((with_reducible refine hK _ ?_); clear hK) | (refine Qj rfl ?_; simp only [↓reduceIte])))
      refine Xv (fun s => s.tm 60 = .b (Zx r) ∧ s.tm 0 = .sl 6 (vs Rl.av l) none ∧ s.tm 1 = .i 300 ∧ s.tm 5 = .i k ∧ (∃ L, s.h = h ++ L)) ?_ ?_
      · rintro ⟨tm, hp⟩ ⟨t60, t0, t1, t5, L, hh⟩
        dsimp only at t60 t0 t1 t5 hh
        subst hh
        cases hgr : Zx r with
        | true =>
          rw [hgr] at t60 he
          refine Qj (by exact t60) ?_
          simp only [↓reduceIte]
          repeat (first | (((with_reducible refine Qa fun K E hK hE => ?_)); simp -implicitDefEqProofs only [Qd, Qb, Qg, OpW, aop, AS.ev, Qc, Qr, Nat.reduceLT]) | (with_reducible (first | refine Qn ?_ | refine QB ?_ | refine QH ?_)) | ((with_reducible refine hK _ ?_); clear hK))
          simp only [QN, Qp, Qu, upd, ↓reduceIte, QlJ, QlN]; first | refine Qe (htake _ _) (.keep (.v _)) ⟨by rw [he]; rfl, rfl⟩ | refine Qe List.take_length (.keep (.v _)) ⟨by rw [he]; rfl, rfl⟩
        | false =>
          rw [hgr] at t60 he
          refine Qj (by exact t60) ?_
          simp only [QlH, ↓reduceIte]
          repeat (first | (((with_reducible refine Qo fun K E hK hE => ?_)); simp -implicitDefEqProofs only [Qd, Qb, Qg, OpW, aop, AS.ev, Qc, Qq, Qk, ↓reduceIte, Nat.reduceLT, aBin, QlF, Xf, t5]) | (with_reducible (first | refine Qv ?_ | refine Qf ?_ | refine Qw ?_)) | ((with_reducible refine hK _ ?_); clear hK))
          refine XD.mk (m' := l.length - (k + 1)) (by omega) ?_
          rw [hI]
          refine ⟨k + 1, rfl, hlt, by rw [he]; rfl, t0, t1, ?_, _, rfl⟩
          simp only [upd, ↓reduceIte]
          rw [Xe (by omega)]
      · by_cases d0' : a4 > 300
        · have R : Zx r = true := key1 d0'
          (with_reducible refine Qo fun K E hK hE => ?_)
          (try simp only [Qme]); refine Qz 5 (fun K1 hK1 => ?_); simp -implicitDefEqProofs only [Qd, Qb, Qg, OpW, aop, AS.ev, Qc, Qk, ↓reduceIte, Nat.reduceLT, Nat.reduceEqDiff, aBin, aLen, QlF, QlO, QlV, Q1, goInt, Qma, un27, t0, t1, w0, QG]; refine hK1 _ ?_; clear hK1
          (try simp only [QlM, QlU]); refine Qz 8 (fun K1 hK1 => ?_); simp -implicitDefEqProofs only [Qd, Qb, Qg, OpW, aop, AS.ev, Qc, Qq, Qk, ↓reduceIte, Nat.reduceLT, Nat.reduceEqDiff, QlP, Ql2, Ql, QK, QL, aBin, aLen, QO, hget, QlD, QlE, QlF, QlI, QlG, QlO, QlV, Xf, goInt, QlL, ti9, ti22, un22, XT, X7, QG, Rl.cells, hsl, Zu, hq, hw2, hw3]; refine hK1 _ ?_; clear hK1
          (try simp only [QlM, QlU]); refine Qz 8 (fun K1 hK1 => ?_); simp -implicitDefEqProofs only [Qd, Qb, Qg, OpW, aop, AS.ev, Qc, Qk, ↓reduceIte, Nat.reduceLT, Nat.reduceEqDiff, QlP, Ql, QK, QL, aBin, aLen, QO, hget, QlD, QlE, QlF, QlI, QlG, QlO, QlV, Q1, Xf, goInt, Ql9, QlL, QlH, ti22, un22, X6, t1, QG, Rl.cells, hw4, d0']; refine hK1 _ ?_; clear hK1
          (try simp only [QlM, QlU]); refine Qz 6 (fun K1 hK1 => ?_); simp -implicitDefEqProofs only [Qd, Qb, Qg, OpW, aop, undef, AS.ev, Qc, Qr, Qk, Ql0, ↓reduceIte, Nat.reduceLT, Nat.reduceEqDiff, QlD, QlE, QlI, QlG, QlO, QlV, beq_false]; (repeat ((((with_reducible refine Qa fun K E hK hE => ?_)); simp -implicitDefEqProofs only [Qd, Qb, Qg, OpW, QR, aop, undef, YS, Qmj, Qmk, Zh, Yo, YF, AS.ev, Qc, QY, Qq, Qr, QF, Xq, YG, Xt, Xz, Xn, YJ, Qk, QD, QlK, Ql3, AV.Qk5, Qy, Q6, Xs, XY, Xh, XU, Yp, Yk, X0, QM, Xy, XJ, X4, XQ, X2, Yj, Yi, XZ, QlX, QlY, QC, XI, QA, QP, X1, Xc, Xp, Xi, QI, X3, Xm, XX, Yn, Ym, XW, QlZ, Qmm, Qmn, Ql0, Ql1, ↓reduceIte, QlQ, QlR, Nat.reduceAdd, Nat.reduceLT, Nat.reduceLeDiff, Nat.reduceEqDiff, Nat.reduceSub, Nat.reduceMul, QlP, Ql2, Qmc, Qmd, Qmb, Xo, Xr, Ql, QK, QL, Xj, Q0, QJ, aBin, aLen, QO, hget, Yg, hset, hlen, happ, QlD, QlE, Qmt, Ql7, Ql8, QlF, Qmi, QlI, Qmh, QlJ, Qme, QlG, QlS, QlW, Ql5, Ql4, Ql6, QlO, QlV, QlM, QlU, QW, Q1, Xf, Qam, Za, goInt, Ql9, Qma, QlL, Qmo, Qmg, Int.toNat_zero, Int.toNat_one, Qmf, Qmr, Qms, Qmp, QlH, Qml, beq_true, beq_false, rng0, rng1, rng2, rng3, rng4, rng5, rng6, rng7, rng8, Xa, Nat.reducePow, Nat.zero_le, Nat.zero_mul, T.Qk4, T.Qk6, QE, Xg, ti0, zi0, ti3, zi3, un3, ti4, zi4, un4, ti9, ei9, zi9, un9, ti22, ei22, ai22, zi22, un22, ti23, ei23, ai23, zi23, un23, ti25, XT, X7, X6, XR, XP, Zo, zi25, sp25, ti27, ei27, ai27, zi27, un27, ti53, XG, Yy, Ya, zi53, sp53, ti66, YQ, YM, zi66, sp66, Qmq, Int.sub_zero, Zz, Q5, t0, t1, t5, w0, QG, Rl.cells, Rl.isAgg, hsl, Zu, hq, hw2, hw3, hw4, d0']))); refine hK1 _ ?_; clear hK1
          (try simp only [QlM, QlU]); refine Qz 6 (fun K1 hK1 => ?_); simp -implicitDefEqProofs only [Qd, Qb, Qg, OpW, aop, undef, AS.ev, Qc, Qr, Qk, Ql0, ↓reduceIte, Nat.reduceLT, Nat.reduceEqDiff, QlD, QlE, QlI, QlG, QlO, QlV, beq_false]; (repeat ((((with_reducible refine Qa fun K E hK hE => ?_)); simp -implicitDefEqProofs only [Qd, Qb, Qg, OpW, QR, aop, undef, YS, Qmj, Qmk, Zh, Yo, YF, AS.ev, Qc, QY, Qq, Qr, QF, Xq, YG, Xt, Xz, Xn, YJ, Qk, QD, QlK, Ql3, AV.Qk5, Qy, Q6, Xs, XY, Xh, XU, Yp, Yk, X0, QM, Xy, XJ, X4, XQ, X2, Yj, Yi, XZ, QlX, QlY, QC, XI, QA, QP, X1, Xc, Xp, Xi, QI, X3, Xm, XX, Yn, Ym, XW, QlZ, Qmm, Qmn, Ql0, Ql1, ↓reduceIte, QlQ, QlR, Nat.reduceAdd, Nat.reduceLT, Nat.reduceLeDiff, Nat.reduceEqDiff, Nat.reduceSub, Nat.reduceMul, QlP, Ql2, Qmc, Qmd, Qmb, Xo, Xr, Ql, QK, QL, Xj, Q0, QJ, aBin, aLen, QO, hget, Yg, hset, hlen, happ, QlD, QlE, Qmt, Ql7, Ql8, QlF, Qmi, QlI, Qmh, QlJ, Qme, QlG, QlS, QlW, Ql5, Ql4, Ql6, QlO, QlV, QlM, QlU, QW, Q1, Xf, Qam, Za, goInt, Ql9, Qma, QlL, Qmo, Qmg, Int.toNat_zero, Int.toNat_one, Qmf, Qmr, Qms, Qmp, QlH, Qml, beq_true, beq_false, rng0, rng1, rng2, rng3, rng4, rng5, rng6, rng7, rng8, Xa, Nat.reducePow, Nat.zero_le, Nat.zero_mul, T.Qk4, T.Qk6, QE, Xg, ti0, zi0, ti3, zi3, un3, ti4, zi4, un4, ti9, ei9, zi9, un9, ti22, ei22, ai22, zi22, un22, ti23, ei23, ai23, zi23, un23, ti25, XT, X7, X6, XR, XP, Zo, zi25, sp25, ti27, ei27, ai27, zi27, un27, ti53, XG, Yy, Ya, zi53, sp53, ti66, YQ, YM, zi66, sp66, Qmq, Int.sub_zero, Zz, Q5, t0, t1, t5, w0, QG, Rl.cells, Rl.isAgg, hsl, Zu, hq, hw2, hw3, hw4, d0']))); refine hK1 _ ?_; clear hK1
          (try simp only [QlM, QlU]); refine Qz 6 (fun K1 hK1 => ?_); simp -implicitDefEqProofs only [Qd, Qb, Qg, OpW, aop, undef, AS.ev, Qc, Qr, Qk, Ql0, ↓reduceIte, Nat.reduceLT, Nat.reduceEqDiff, QlD, QlE, QlI, QlG, QlO, QlV, beq_false]; (repeat ((((with_reducible refine Qa fun K E hK hE => ?_)); simp -implicitDefEqProofs only [Qd, Qb, Qg, OpW, QR, aop, undef, YS, Qmj, Qmk, Zh, Yo, YF, AS.ev, Qc, QY, Qq, Qr, QF, Xq, YG, Xt, Xz, Xn, YJ, Qk, QD, QlK, Ql3, AV.Qk5, Qy, Q6, Xs, XY, Xh, XU, Yp, Yk, X0, QM, Xy, XJ, X4, XQ, X2, Yj, Yi, XZ, QlX, QlY, QC, XI, QA, QP, X1, Xc, Xp, Xi, QI, X3, Xm, XX, Yn, Ym, XW, QlZ, Qmm, Qmn, Ql0, Ql1, ↓reduceIte, QlQ, QlR, Nat.reduceAdd, Nat.reduceLT, Nat.reduceLeDiff, Nat.reduceEqDiff, Nat.reduceSub, Nat.reduceMul, QlP, Ql2, Qmc, Qmd, Qmb, Xo, Xr, Ql, QK, QL, Xj, Q0, QJ, aBin, aLen, QO, hget, Yg, hset, hlen, happ, QlD, QlE, Qmt, Ql7, Ql8, QlF, Qmi, QlI, Qmh, QlJ, Qme, QlG, QlS, QlW, Ql5, Ql4, Ql6, QlO, QlV, QlM, QlU, QW, Q1, Xf, Qam, Za, goInt, Ql9, Qma, QlL, Qmo, Qmg, Int.toNat_zero, Int.toNat_one, Qmf, Qmr, Qms, Qmp, QlH, Qml, beq_true, beq_false, rng0, rng1, rng2, rng3, rng4, rng5, rng6, rng7, rng8, Xa, Nat.reducePow, Nat.zero_le, Nat.zero_mul, T.Qk4, T.Qk6, QE, Xg, ti0, zi0, ti3, zi3, un3, ti4, zi4, un4, ti9, ei9, zi9, un9, ti22, ei22, ai22, zi22, un22, ti23, ei23, ai23, zi23, un23, ti25, XT, X7, X6, XR, XP, Zo, zi25, sp25, ti27, ei27, ai27, zi27, un27, ti53, XG, Yy, Ya, zi53, sp53, ti66, YQ, YM, zi66, sp66, Qmq, Int.sub_zero, Zz, Q5, t0, t1, t5, w0, QG, Rl.cells, Rl.isAgg, hsl, Zu, hq, hw2, hw3, hw4, d0']))); refine hK1 _ ?_; clear hK1
          (try simp only [QlM, QlU])
          simp -implicitDefEqProofs only [Qd, Qb, Qg, OpW, aop, undef, AS.ev, Qc, Qr, Qk, Ql0, ↓reduceIte, Nat.reduceLT, Nat.reduceEqDiff, QlD, QlE, QlI, QlG, beq_false]
          repeat (first | (with_reducible refine Qf ?_) | ((with_reducible refine hK _ ?_); clear hK))
          rw [R]
          exact ⟨rfl, t0, t1, t5, _, rfl⟩
        obtain ⟨b1, w1⟩ : ∃ b, b = decide (Yu r.keep 300 < 0) := ⟨_, rfl⟩
        rw [← w1] at c1
        cases b1
        rotate_left
        · have R : Zx r = true := by rw [key2 d0', ← w1]; rfl
          (with_reducible refine Qo fun K E hK hE => ?_)
          (try simp only [Qme]); refine Qz 5 (fun K1 hK1 => ?_); simp -implicitDefEqProofs only [Qd, Qb, Qg, OpW, aop, AS.ev, Qc, Qk, ↓reduceIte, Nat.reduceLT, Nat.reduceEqDiff, aBin, aLen, QlF, QlO, QlV, Q1, goInt, Qma, un27, t0, t1, w0, QG]; refine hK1 _ ?_; clear hK1
          (try simp only [QlM, QlU]); refine Qz 8 (fun K1 hK1 => ?_); simp -implicitDefEqProofs only [Qd, Qb, Qg, OpW, aop, AS.ev, Qc, Qq, Qk, ↓reduceIte, Nat.reduceLT, Nat.reduceEqDiff, QlP, Ql2, Ql, QK, QL, aBin, aLen, QO, hget, QlD, QlE, QlF, QlI, QlG, QlO, QlV, Xf, goInt, QlL, ti9, ti22, un22, XT, X7, QG, Rl.cells, hsl, Zu, hq, hw2, hw3]; refine hK1 _ ?_; clear hK1
          (try simp only [QlM, QlU]); refine Qz 8 (fun K1 hK1 => ?_); simp -implicitDefEqProofs only [Qd, Qb, Qg, OpW, aop, AS.ev, Qc, Qk, ↓reduceIte, Nat.reduceLT, Nat.reduceEqDiff, QlP, Ql, QK, QL, aBin, aLen, QO, hget, QlD, QlE, QlF, QlI, QlG, QlO, QlV, Q1, Xf, goInt, Qma, QlL, QlH, ti22, un22, X6, t1, QG, Rl.cells, hw4, d0']; refine hK1 _ ?_; clear hK1
          (try simp only [QlM, QlU]); refine Qz 6 (fun K1 hK1 => ?_); simp -implicitDefEqProofs only [Qb, Qg, OpW, aop, AS.ev, Qc, Qk, ↓reduceIte, Nat.reduceLT, Nat.reduceEqDiff, QlP, Ql, QK, QL, QO, hget, QlD, QlE, QlF, QlI, QlG, QlS, QlW, QlO, QlV, QlL, ti22, X7, t1, Rl.cells]; (repeat ((((with_reducible refine Qs c1 ?_)); simp -implicitDefEqProofs only [Qd, Qb, Qg, OpW, QR, aop, AS.ev, Qc, Qk, ↓reduceIte, Nat.reduceLT, Nat.reduceEqDiff, QlH]))); refine hK1 _ ?_; clear hK1
          (try simp only [QlM, QlU]); refine Qz 6 (fun K1 hK1 => ?_); simp -implicitDefEqProofs only [Qd, Qb, Qg, OpW, aop, undef, AS.ev, Qc, Qr, Qk, Ql0, ↓reduceIte, Nat.reduceLT, Nat.reduceEqDiff, QlD, QlE, QlI, QlG, QlO, QlV, beq_false]; (repeat ((((with_reducible refine Qa fun K E hK hE => ?_)); simp -implicitDefEqProofs only [Qd, Qb, Qg, OpW, QR, aop, undef, YS, Qmj, Qmk, Zh, Yo, YF, AS.ev, Qc, QY, Qq, Qr, QF, Xq, YG, Xt, Xz, Xn, YJ, Qk, QD, QlK, Ql3, AV.Qk5, Qy, Q6, Xs, XY, Xh, XU, Yp, Yk, X0, QM, Xy, XJ, X4, XQ, X2, Yj, Yi, XZ, QlX, QlY, QC, XI, QA, QP, X1, Xc, Xp, Xi, QI, X3, Xm, XX, Yn, Ym, XW, QlZ, Qmm, Qmn, Ql0, Ql1, ↓reduceIte, QlQ, QlR, Nat.reduceAdd, Nat.reduceLT, Nat.reduceLeDiff, Nat.reduceEqDiff, Nat.reduceSub, Nat.reduceMul, QlP, Ql2, Qmc, Qmd, Qmb, Xo, Xr, Ql, QK, QL, Xj, Q0, QJ, aBin, aLen, QO, hget, Yg, hset, hlen, happ, QlD, QlE, Qmt, Ql7, Ql8, QlF, Qmi, QlI, Qmh, QlJ, Qme, QlG, QlS, QlW, Ql5, Ql4, Ql6, QlO, QlV, QlM, QlU, QW, Q1, Xf, Qam, Za, goInt, Ql9, Qma, QlL, Qmo, Qmg, Int.toNat_zero, Int.toNat_one, Qmf, Qmr, Qms, Qmp, QlH, Qml, beq_true, beq_false, rng0, rng1, rng2, rng3, rng4, rng5, rng6, rng7, rng8, Xa, Nat.reducePow, Nat.zero_le, Nat.zero_mul, T.Qk4, T.Qk6, QE, Xg, ti0, zi0, ti3, zi3, un3, ti4, zi4, un4, ti9, ei9, zi9, un9, ti22, ei22, ai22, zi22, un22, ti23, ei23, ai23, zi23, un23, ti25, XT, X7, X6, XR, XP, Zo, zi25, sp25, ti27, ei27, ai27, zi27, un27, ti53, XG, Yy, Ya, zi53, sp53, ti66, YQ, YM, zi66, sp66, Qmq, Int.sub_zero, Zz, Q5, t0, t1, t5, w0, QG, Rl.cells, Rl.isAgg, hsl, Zu, hq, hw2, hw3, hw4, d0']))); refine hK1 _ ?_; clear hK1
          (try simp only [QlM, QlU]); refine Qz 6 (fun K1 hK1 => ?_); simp -implicitDefEqProofs only [Qd, Qb, Qg, OpW, aop, undef, AS.ev, Qc, Qr, Qk, Ql0, ↓reduceIte, Nat.reduceLT, Nat.reduceEqDiff, QlD, QlE, QlI, QlG, QlO, QlV, beq_false]; (repeat ((((with_reducible refine Qa fun K E hK hE => ?_)); simp -implicitDefEqProofs only [Qd, Qb, Qg, OpW, QR, aop, undef, YS, Qmj, Qmk, Zh, Yo, YF, AS.ev, Qc, QY, Qq, Qr, QF, Xq, YG, Xt, Xz, Xn, YJ, Qk, QD, QlK, Ql3, AV.Qk5, Qy, Q6, Xs, XY, Xh, XU, Yp, Yk, X0, QM, Xy, XJ, X4, XQ, X2, Yj, Yi, XZ, QlX, QlY, QC, XI, QA, QP, X1, Xc, Xp, Xi, QI, X3, Xm, XX, Yn, Ym, XW, QlZ, Qmm, Qmn, Ql0, Ql1, ↓reduceIte, QlQ, QlR, Nat.reduceAdd, Nat.reduceLT, Nat.reduceLeDiff, Nat.reduceEqDiff, Nat.reduceSub, Nat.reduceMul, QlP, Ql2, Qmc, Qmd, Qmb, Xo, Xr, Ql, QK, QL, Xj, Q0, QJ, aBin, aLen, QO, hget, Yg, hset, hlen, happ, QlD, QlE, Qmt, Ql7, Ql8, QlF, Qmi, QlI, Qmh, QlJ, Qme, QlG, QlS, QlW, Ql5, Ql4, Ql6, QlO, QlV, QlM, QlU, QW, Q1, Xf, Qam, Za, goInt, Ql9, Qma, QlL, Qmo, Qmg, Int.toNat_zero, Int.toNat_one, Qmf, Qmr, Qms, Qmp, QlH, Qml, beq_true, beq_false, rng0, rng1, rng2, rng3, rng4, rng5, rng6, rng7, rng8, Xa, Nat.reducePow, Nat.zero_le, Nat.zero_mul, T.Qk4, T.Qk6, QE, Xg, ti0, zi0, ti3, zi3, un3, ti4, zi4, un4, ti9, ei9, zi9, un9, ti22, ei22, ai22, zi22, un22, ti23, ei23, ai23, zi23, un23, ti25, XT, X7, X6, XR, XP, Zo, zi25, sp25, ti27, ei27, ai27, zi27, un27, ti53, XG, Yy, Ya, zi53, sp53, ti66, YQ, YM, zi66, sp66, Qmq, Int.sub_zero, Zz, Q5, t0, t1, t5, w0, QG, Rl.cells, Rl.isAgg, hsl, Zu, hq, hw2, hw3, hw4, d0']))); refine hK1 _ ?_; clear hK1
          (try simp only [QlM, QlU])
          simp -implicitDefEqProofs only [Qd, Qb, Qg, OpW, aop, undef, AS.ev, Qc, Qr, Qk, Ql0, ↓reduceIte, Nat.reduceLT, Nat.reduceEqDiff, QlD, QlE, QlI, QlG, beq_false]
          repeat (first | (with_reducible refine Qf ?_) | ((with_reducible refine hK _ ?_); clear hK))
          rw [R]
          exact ⟨rfl, t0, t1, t5, _, rfl⟩
        obtain ⟨b2, w2⟩ : ∃ b, b = decide (Yu r.remove 300 < 0) := ⟨_, rfl⟩
        rw [← w2] at c2
        cases b2
        rotate_left
        · have R : Zx r = true := by rw [key2 d0', ← w1, ← w2]; rfl
          (with_reducible refine Qo fun K E hK hE => ?_)
          (try simp only [Qme]); refine Qz 5 (fun K1 hK1 => ?_); simp -implicitDefEqProofs only [Qd, Qb, Qg, OpW, aop, AS.ev, Qc, Qk, ↓reduceIte, Nat.reduceLT, Nat.reduceEqDiff, aBin, aLen, QlF, QlO, QlV, Q1, goInt, Qma, un27, t0, t1, w0, QG]; refine hK1 _ ?_; clear hK1
          (try simp only [QlM, QlU]); refine Qz 8 (fun K1 hK1 => ?_); simp -implicitDefEqProofs only [Qd, Qb, Qg, OpW, aop, AS.ev, Qc, Qq, Qk, ↓reduceIte, Nat.reduceLT, Nat.reduceEqDiff, QlP, Ql2, Ql, QK, QL, aBin, aLen, QO, hget, QlD, QlE, QlF, QlI, QlG, QlO, QlV, Xf, goInt, QlL, ti9, ti22, un22, XT, X7, QG, Rl.cells, hsl, Zu, hq, hw2, hw3]; refine hK1 _ ?_; clear hK1
          (try simp only [QlM, QlU]); refine Qz 8 (fun K1 hK1 => ?_); simp -implicitDefEqProofs only [Qd, Qb, Qg, OpW, aop, AS.ev, Qc, Qk, ↓reduceIte, Nat.reduceLT, Nat.reduceEqDiff, QlP, Ql, QK, QL, aBin, aLen, QO, hget, QlD, QlE, QlF, QlI, QlG, QlO, QlV, Q1, Xf, goInt, Qma, QlL, QlH, ti22, un22, X6, t1, QG, Rl.cells, hw4, d0']; refine hK1 _ ?_; clear hK1
          (try simp only [QlM, QlU]); refine Qz 6 (fun K1 hK1 => ?_); simp -implicitDefEqProofs only [Qb, Qg, OpW, aop, AS.ev, Qc, Qk, ↓reduceIte, Nat.reduceLT, Nat.reduceEqDiff, QlP, Ql, QK, QL, QO, hget, QlD, QlE, QlF, QlI, QlG, QlS, QlW, QlO, QlV, QlL, ti22, X7, t1, Rl.cells]; (repeat ((((with_reducible refine Qs c1 ?_)); simp -implicitDefEqProofs only [Qd, Qb, Qg, OpW, QR, aop, AS.ev, Qc, Qk, ↓reduceIte, Nat.reduceLT, Nat.reduceEqDiff, QlH]))); refine hK1 _ ?_; clear hK1
          (try simp only [QlM, QlU]); refine Qz 6 (fun K1 hK1 => ?_); simp -implicitDefEqProofs only [Qb, Qg, OpW, aop, AS.ev, Qc, Qk, ↓reduceIte, Nat.reduceLT, Nat.reduceEqDiff, QlP, Ql, QK, QL, QO, hget, QlD, QlE, QlF, QlI, QlG, QlS, QlW, QlO, QlV, QlL, ti22, X6, t1, Rl.cells]; (repeat ((((with_reducible refine Qs c2 ?_)); simp -implicitDefEqProofs only [Qd, Qb, Qg, OpW, QR, aop, AS.ev, Qc, Qk, ↓reduceIte, Nat.reduceLT, Nat.reduceEqDiff, QlH]))); refine hK1 _ ?_; clear hK1
          (try simp only [QlM, QlU]); refine Qz 6 (fun K1 hK1 => ?_); simp -implicitDefEqProofs only [Qd, Qb, Qg, OpW, aop, undef, AS.ev, Qc, Qr, Qk, Ql0, ↓reduceIte, Nat.reduceLT, Nat.reduceEqDiff, QlD, QlE, QlI, QlG, QlO, QlV, beq_false]; (repeat ((((with_reducible refine Qa fun K E hK hE => ?_)); simp -implicitDefEqProofs only [Qd, Qb, Qg, OpW, QR, aop, undef, YS, Qmj, Qmk, Zh, Yo, YF, AS.ev, Qc, QY, Qq, Qr, QF, Xq, YG, Xt, Xz, Xn, YJ, Qk, QD, QlK, Ql3, AV.Qk5, Qy, Q6, Xs, XY, Xh, XU, Yp, Yk, X0, QM, Xy, XJ, X4, XQ, X2, Yj, Yi, XZ, QlX, QlY, QC, XI, QA, QP, X1, Xc, Xp, Xi, QI, X3, Xm, XX, Yn, Ym, XW, QlZ, Qmm, Qmn, Ql0, Ql1, ↓reduceIte, QlQ, QlR, Nat.reduceAdd, Nat.reduceLT, Nat.reduceLeDiff, Nat.reduceEqDiff, Nat.reduceSub, Nat.reduceMul, QlP, Ql2, Qmc, Qmd, Qmb, Xo, Xr, Ql, QK, QL, Xj, Q0, QJ, aBin, aLen, QO, hget, Yg, hset, hlen, happ, QlD, QlE, Qmt, Ql7, Ql8, QlF, Qmi, QlI, Qmh, QlJ, Qme, QlG, QlS, QlW, Ql5, Ql4, Ql6, QlO, QlV, QlM, QlU, QW, Q1, Xf, Qam, Za, goInt, Ql9, Qma, QlL, Qmo, Qmg, Int.toNat_zero, Int.toNat_one, Qmf, Qmr, Qms, Qmp, QlH, Qml, beq_true, beq_false, rng0, rng1, rng2, rng3, rng4, rng5, rng6, rng7, rng8, Xa, Nat.reducePow, Nat.zero_le, Nat.zero_mul, T.Qk4, T.Qk6, QE, Xg, ti0, zi0, ti3, zi3, un3, ti4, zi4, un4, ti9, ei9, zi9, un9, ti22, ei22, ai22, zi22, un22, ti23, ei23, ai23, zi23, un23, ti25, XT, X7, X6, XR, XP, Zo, zi25, sp25, ti27, ei27, ai27, zi27, un27, ti53, XG, Yy, Ya, zi53, sp53, ti66, YQ, YM, zi66, sp66, Qmq, Int.sub_zero, Zz, Q5, t0, t1, t5, w0, QG, Rl.cells, Rl.isAgg, hsl, Zu, hq, hw2, hw3, hw4, d0']))); refine hK1 _ ?_; clear hK1
          (try simp only [QlM, QlU])
          simp -implicitDefEqProofs only [Qd, Qb, Qg, OpW, aop, undef, AS.ev, Qc, Qr, Qk, Ql0, ↓reduceIte, Nat.reduceLT, Nat.reduceEqDiff, QlD, QlE, QlI, QlG, beq_false]
          repeat (first | (with_reducible refine Qf ?_) | ((with_reducible refine hK _ ?_); clear hK))
          rw [R]
          exact ⟨rfl, t0, t1, t5, _, rfl⟩
        obtain ⟨b3, w3⟩ : ∃ b, b = decide (Yu r.guard 300 < 0) := ⟨_, rfl⟩
        rw [← w3] at c3
        cases b3
        rotate_left
        · have R : Zx r = true := by rw [key2 d0', ← w1, ← w2, ← w3]; rfl
          (with_reducible refine Qo fun K E hK hE => ?_)
          (try simp only [Qme]); refine Qz 5 (fun K1 hK1 => ?_); simp -implicitDefEqProofs only [Qd, Qb, Qg, OpW, aop, AS.ev, Qc, Qk, ↓reduceIte, Nat.reduceLT, Nat.reduceEqDiff, aBin, aLen, QlF, QlO, QlV, Q1, goInt, Qma, un27, t0, t1, w0, QG]; refine hK1 _ ?_; clear hK1
          (try simp only [QlM, QlU]); refine Qz 8 (fun K1 hK1 => ?_); simp -implicitDefEqProofs only [Qd, Qb, Qg, OpW, aop, AS.ev, Qc, Qq, Qk, ↓reduceIte, Nat.reduceLT, Nat.reduceEqDiff, QlP, Ql2, Ql, QK, QL, aBin, aLen, QO, hget, QlD, QlE, QlF, QlI, QlG, QlO, QlV, Xf, goInt, QlL, ti9, ti22, un22, XT, X7, QG, Rl.cells, hsl, Zu, hq, hw2, hw3]; refine hK1 _ ?_; clear hK1
          (try simp only [QlM, QlU]); refine Qz 8 (fun K1 hK1 => ?_); simp -implicitDefEqProofs only [Qd, Qb, Qg, OpW, aop, AS.ev, Qc, Qk, ↓reduceIte, Nat.reduceLT, Nat.reduceEqDiff, QlP, Ql, QK, QL, aBin, aLen, QO, hget, QlD, QlE, QlF, QlI, QlG, QlO, QlV, Q1, Xf, goInt, Qma, QlL, QlH, ti22, un22, X6, t1, QG, Rl.cells, hw4, d0']; refine hK1 _ ?_; clear hK1
          (try simp only [QlM, QlU]); refine Qz 6 (fun K1 hK1 => ?_); simp -implicitDefEqProofs only [Qb, Qg, OpW, aop, AS.ev, Qc, Qk, ↓reduceIte, Nat.reduceLT, Nat.reduceEqDiff, QlP, Ql, QK, QL, QO, hget, QlD, QlE, QlF, QlI, QlG, QlS, QlW, QlO, QlV, QlL, ti22, X7, t1, Rl.cells]; (repeat ((((with_reducible refine Qs c1 ?_)); simp -implicitDefEqProofs only [Qd, Qb, Qg, OpW, QR, aop, AS.ev, Qc, Qk, ↓reduceIte, Nat.reduceLT, Nat.reduceEqDiff, QlH]))); refine hK1 _ ?_; clear hK1
          (try simp only [QlM, QlU]); refine Qz 6 (fun K1 hK1 => ?_); simp -implicitDefEqProofs only [Qb, Qg, OpW, aop, AS.ev, Qc, Qk, ↓reduceIte, Nat.reduceLT, Nat.reduceEqDiff, QlP, Ql, QK, QL, QO, hget, QlD, QlE, QlF, QlI, QlG, QlS, QlW, QlO, QlV, QlL, ti22, X6, t1, Rl.cells]; (repeat ((((with_reducible refine Qs c2 ?_)); simp -implicitDefEqProofs only [Qd, Qb, Qg, OpW, QR, aop, AS.ev, Qc, Qk, ↓reduceIte, Nat.reduceLT, Nat.reduceEqDiff, QlH]))); refine hK1 _ ?_; clear hK1
          (try simp only [QlM, QlU]); refine Qz 6 (fun K1 hK1 => ?_); simp -implicitDefEqProofs only [Qb, Qg, OpW, aop, AS.ev, Qc, Qk, ↓reduceIte, Nat.reduceLT, Nat.reduceEqDiff, QlP, Ql, QK, QL, QO, hget, QlD, QlE, QlF, QlI, QlG, QlS, QlW, QlO, QlV, QlL, ti23, XR, t1, Rl.cells]; (repeat ((((with_reducible refine Qs c3 ?_)); simp -implicitDefEqProofs only [Qd, Qb, Qg, OpW, QR, aop, AS.ev, Qc, Qk, ↓reduceIte, Nat.reduceLT, Nat.reduceEqDiff, QlH]))); refine hK1 _ ?_; clear hK1
          (try simp only [QlM, QlU])
          simp -implicitDefEqProofs only [Qd, Qb, Qg, OpW, aop, undef, AS.ev, Qc, Qr, Qk, Ql0, ↓reduceIte, Nat.reduceLT, Nat.reduceEqDiff, QlD, QlE, QlI, QlG, beq_false]
          repeat (first | (with_reducible refine Qf ?_) | ((with_reducible refine hK _ ?_); clear hK))
          rw [R]
          exact ⟨rfl, t0, t1, t5, _, rfl⟩
        obtain ⟨b4, w4⟩ : ∃ b, b = decide (Yu r.body 300 < 0) := ⟨_, rfl⟩
        rw [← w4] at c4
        cases b4
        rotate_left
        · have R : Zx r = true := by rw [key2 d0', ← w1, ← w2, ← w3, ← w4]; rfl
          (with_reducible refine Qo fun K E hK hE => ?_)
          (try simp only [Qme]); refine Qz 5 (fun K1 hK1 => ?_); simp -implicitDefEqProofs only [Qd, Qb, Qg, OpW, aop, AS.ev, Qc, Qk, ↓reduceIte, Nat.reduceLT, Nat.reduceEqDiff, aBin, aLen, QlF, QlO, QlV, Q1, goInt, Qma, un27, t0, t1, w0, QG]; refine hK1 _ ?_; clear hK1
          (try simp only [QlM, QlU]); refine Qz 8 (fun K1 hK1 => ?_); simp -implicitDefEqProofs only [Qd, Qb, Qg, OpW, aop, AS.ev, Qc, Qq, Qk, ↓reduceIte, Nat.reduceLT, Nat.reduceEqDiff, QlP, Ql2, Ql, QK, QL, aBin, aLen, QO, hget, QlD, QlE, QlF, QlI, QlG, QlO, QlV, Xf, goInt, QlL, ti9, ti22, un22, XT, X7, QG, Rl.cells, hsl, Zu, hq, hw2, hw3]; refine hK1 _ ?_; clear hK1
          (try simp only [QlM, QlU]); refine Qz 8 (fun K1 hK1 => ?_); simp -implicitDefEqProofs only [Qd, Qb, Qg, OpW, aop, AS.ev, Qc, Qk, ↓reduceIte, Nat.reduceLT, Nat.reduceEqDiff, QlP, Ql, QK, QL, aBin, aLen, QO, hget, QlD, QlE, QlF, QlI, QlG, QlO, QlV, Q1, Xf, goInt, Qma, QlL, QlH, ti22, un22, X6, t1, QG, Rl.cells, hw4, d0']; refine hK1 _ ?_; clear hK1
          (try simp only [QlM, QlU]); refine Qz 6 (fun K1 hK1 => ?_); simp -implicitDefEqProofs only [Qb, Qg, OpW, aop, AS.ev, Qc, Qk, ↓reduceIte, Nat.reduceLT, Nat.reduceEqDiff, QlP, Ql, QK, QL, QO, hget, QlD, QlE, QlF, QlI, QlG, QlS, QlW, QlO, QlV, QlL, ti22, X7, t1, Rl.cells]; (repeat ((((with_reducible refine Qs c1 ?_)); simp -implicitDefEqProofs only [Qd, Qb, Qg, OpW, QR, aop, AS.ev, Qc, Qk, ↓reduceIte, Nat.reduceLT, Nat.reduceEqDiff, QlH]))); refine hK1 _ ?_; clear hK1
          (try simp only [QlM, QlU]); refine Qz 6 (fun K1 hK1 => ?_); simp -implicitDefEqProofs only [Qb, Qg, OpW, aop, AS.ev, Qc, Qk, ↓reduceIte, Nat.reduceLT, Nat.reduceEqDiff, QlP, Ql, QK, QL, QO, hget, QlD, QlE, QlF, QlI, QlG, QlS, QlW, QlO, QlV, QlL, ti22, X6, t1, Rl.cells]; (repeat ((((with_reducible refine Qs c2 ?_)); simp -implicitDefEqProofs only [Qd, Qb, Qg, OpW, QR, aop, AS.ev, Qc, Qk, ↓reduceIte, Nat.reduceLT, Nat.reduceEqDiff, QlH]))); refine hK1 _ ?_; clear hK1
          (try simp only [QlM, QlU]); refine Qz 6 (fun K1 hK1 => ?_); simp -implicitDefEqProofs only [Qb, Qg, OpW, aop, AS.ev, Qc, Qk, ↓reduceIte, Nat.reduceLT, Nat.reduceEqDiff, QlP, Ql, QK, QL, QO, hget, QlD, QlE, QlF, QlI, QlG, QlS, QlW, QlO, QlV, QlL, ti23, XR, t1, Rl.cells]; (repeat ((((with_reducible refine Qs c3 ?_)); simp -implicitDefEqProofs only [Qd, Qb, Qg, OpW, QR, aop, AS.ev, Qc, Qk, ↓reduceIte, Nat.reduceLT, Nat.reduceEqDiff, QlH]))); refine hK1 _ ?_; clear hK1
          (try simp only [QlM, QlU])
          simp -implicitDefEqProofs only [Qb, Qg, OpW, aop, AS.ev, Qc, Qk, ↓reduceIte, Nat.reduceLT, Nat.reduceEqDiff, QlP, Ql, QK, QL, QO, hget, QlD, QlE, QlF, QlI, QlG, QlS, QlW, QlL, ti23, XP, t1, Rl.cells]
          repeat (first | (((with_reducible refine Qs c4 ?_)); simp -implicitDefEqProofs only [Qd, Qb, Qg, OpW, QR, aop, AS.ev, Qc, Qk, ↓reduceIte, Nat.reduceLT, Nat.reduceEqDiff, QlH]) | (with_reducible refine Qf ?_) | ((with_reducible refine hK _ ?_); clear hK))
          rw [R]
          exact ⟨rfl, t0, t1, t5, _, rfl⟩
        have R : Zx r = false := by rw [key2 d0', ← w1, ← w2, ← w3, ← w4]; rfl
        (with_reducible refine Qo fun K E hK hE => ?_)
        (try simp only [Qme]); refine Qz 5 (fun K1 hK1 => ?_); simp -implicitDefEqProofs only [Qd, Qb, Qg, OpW, aop, AS.ev, Qc, Qk, ↓reduceIte, Nat.reduceLT, Nat.reduceEqDiff, aBin, aLen, QlF, QlO, QlV, Q1, goInt, Qma, un27, t0, t1, w0, QG]; refine hK1 _ ?_; clear hK1
        (try simp only [QlM, QlU]); refine Qz 8 (fun K1 hK1 => ?_); simp -implicitDefEqProofs only [Qd, Qb, Qg, OpW, aop, AS.ev, Qc, Qq, Qk, ↓reduceIte, Nat.reduceLT, Nat.reduceEqDiff, QlP, Ql2, Ql, QK, QL, aBin, aLen, QO, hget, QlD, QlE, QlF, QlI, QlG, QlO, QlV, Xf, goInt, QlL, ti9, ti22, un22, XT, X7, QG, Rl.cells, hsl, Zu, hq, hw2, hw3]; refine hK1 _ ?_; clear hK1
        (try simp only [QlM, QlU]); refine Qz 8 (fun K1 hK1 => ?_); simp -implicitDefEqProofs only [Qd, Qb, Qg, OpW, aop, AS.ev, Qc, Qk, ↓reduceIte, Nat.reduceLT, Nat.reduceEqDiff, QlP, Ql, QK, QL, aBin, aLen, QO, hget, QlD, QlE, QlF, QlI, QlG, QlO, QlV, Q1, Xf, goInt, Qma, QlL, QlH, ti22, un22, X6, t1, QG, Rl.cells, hw4, d0']; refine hK1 _ ?_; clear hK1
        (try simp only [QlM, QlU]); refine Qz 6 (fun K1 hK1 => ?_); simp -implicitDefEqProofs only [Qb, Qg, OpW, aop, AS.ev, Qc, Qk, ↓reduceIte, Nat.reduceLT, Nat.reduceEqDiff, QlP, Ql, QK, QL, QO, hget, QlD, QlE, QlF, QlI, QlG, QlS, QlW, QlO, QlV, QlL, ti22, X7, t1, Rl.cells]; (repeat ((((with_reducible refine Qs c1 ?_)); simp -implicitDefEqProofs only [Qd, Qb, Qg, OpW, QR, aop, AS.ev, Qc, Qk, ↓reduceIte, Nat.reduceLT, Nat.reduceEqDiff, QlH]))); refine hK1 _ ?_; clear hK1
        (try simp only [QlM, QlU]); refine Qz 6 (fun K1 hK1 => ?_); simp -implicitDefEqProofs only [Qb, Qg, OpW, aop, AS.ev, Qc, Qk, ↓reduceIte, Nat.reduceLT, Nat.reduceEqDiff, QlP, Ql, QK, QL, QO, hget, QlD, QlE, QlF, QlI, QlG, QlS, QlW, QlO, QlV, QlL, ti22, X6, t1, Rl.cells]; (repeat ((((with_reducible refine Qs c2 ?_)); simp -implicitDefEqProofs only [Qd, Qb, Qg, OpW, QR, aop, AS.ev, Qc, Qk, ↓reduceIte, Nat.reduceLT, Nat.reduceEqDiff, QlH]))); refine hK1 _ ?_; clear hK1
        (try simp only [QlM, QlU]); refine Qz 6 (fun K1 hK1 => ?_); simp -implicitDefEqProofs only [Qb, Qg, OpW, aop, AS.ev, Qc, Qk, ↓reduceIte, Nat.reduceLT, Nat.reduceEqDiff, QlP, Ql, QK, QL, QO, hget, QlD, QlE, QlF, QlI, QlG, QlS, QlW, QlO, QlV, QlL, ti23, XR, t1, Rl.cells]; (repeat ((((with_reducible refine Qs c3 ?_)); simp -implicitDefEqProofs only [Qd, Qb, Qg, OpW, QR, aop, AS.ev, Qc, Qk, ↓reduceIte, Nat.reduceLT, Nat.reduceEqDiff, QlH]))); refine hK1 _ ?_; clear hK1
        (try simp only [QlM, QlU])
        simp -implicitDefEqProofs only [Qb, Qg, OpW, aop, AS.ev, Qc, Qk, ↓reduceIte, Nat.reduceLT, Nat.reduceEqDiff, QlP, Ql, QK, QL, QO, hget, QlD, QlE, QlF, QlI, QlG, QlS, QlW, QlL, ti23, XP, t1, Rl.cells]
        repeat (first | (((with_reducible refine Qs c4 ?_)); simp -implicitDefEqProofs only [Qd, Qb, Qg, OpW, QR, aop, AS.ev, Qc, Qk, ↓reduceIte, Nat.reduceLT, Nat.reduceEqDiff, QlH]) | (with_reducible refine Qf ?_) | ((with_reducible refine hK _ ?_); clear hK))
        rw [R]
        exact ⟨rfl, t0, t1, t5, _, rfl⟩
    · have hkn : k = l.length := by omega
      subst hkn
      have z1 : ¬ ((l.length : Nat) : Int) < l.length := by omega
      rw [List.drop_length] at he
      repeat (first | (((with_reducible refine Qa fun K E hK hE => ?_)); simp -implicitDefEqProofs only [Qd, Qb, Qg, OpW, aop, AS.ev, Qc, Qr, Qk, ↓reduceIte, Nat.reduceLT, Nat.reduceEqDiff, aBin, aLen, QlF, QW, goInt, Qma, un27, t0, t5, z1, QG]) | (with_reducible (first | refine Qi fun K hK => ?_ | refine Qn ?_ | refine Q2 ?_ | refine Qf ?_ | refine QU ?_ | refine QV ?_)) | ((with_reducible refine hK _ ?_); clear hK) | (clear hK; (with_reducible refine hK _ ?_); clear hK) | (refine Qj rfl ?_; simp only [↓reduceIte, QlH]))
      simp only [QN, Qp, Qu, upd, ↓reduceIte, QlJ, QlN]; first | refine Qe (htake _ _) (.keep (.v _)) ⟨by rw [he]; rfl, rfl⟩ | refine Qe List.take_length (.keep (.v _)) ⟨by rw [he]; rfl, rfl⟩
  · rw [hI]
    exact ⟨0, rfl, by omega, rfl, rfl, rfl, rfl, [], (List.append_nil _).symm⟩
def Qcc (l : List Rl) : Bool := decide (45 < l.length) || l.any Zx
theorem QdT (l : List Rl) (ho : ∀ r ∈ l, r.ok) (hl : l.length ≤ 9223372036854775807) : Pure Tryz.prog 8 [.sl 6 (vs Rl.av l) none] (.b (Qcc l)) := by
  intro h
  by_cases q : 45 < l.length
  · have z : (l.length : Int) > 45 := by omega
    refine Qh Tryz.func8 rfl Tryz.call8 Tryz.ntmps8 (congrArg Array.toList Tryz.results8) (by simp) ?_
    repeat (first | (((with_reducible refine Qa fun K E hK hE => ?_)); simp -implicitDefEqProofs only [Qd, Qb, Qg, OpW, aop, undef, AS.ev, Qc, Qq, Qr, Qk, QD, QlK, Ql0, ↓reduceIte, Nat.reduceLT, Nat.reduceEqDiff, aBin, aLen, QlD, QlE, QlF, QlI, QlG, Q1, goInt, Ql9, beq_false, un27, z, QG]) | (with_reducible refine Qn ?_) | ((with_reducible refine hK _ ?_); clear hK))
    simp only [QN, Qp, Qu, upd, ↓reduceIte, QlJ, QlN]; first | refine Qe (htake _ _) (.keep (.v _)) ⟨by rw [Qcc, decide_eq_true q]; rfl, rfl⟩ | refine Qe List.take_length (.keep (.v _)) ⟨by rw [Qcc, decide_eq_true q]; rfl, rfl⟩
  · have z : ¬ (l.length : Int) > 45 := by omega
    have c := QdM l (by omega) ho
    refine Qh Tryz.func8 rfl Tryz.call8 Tryz.ntmps8 (congrArg Array.toList Tryz.results8) (by simp) ?_
    repeat (first | ((first | (with_reducible (first | refine Qa fun K E hK hE => ?_ | refine Qs c ?_))); simp -implicitDefEqProofs only [Qd, Qb, Qg, OpW, QR, aop, undef, AS.ev, Qc, Qq, Qr, Qk, QD, QlK, ↓reduceIte, Nat.reduceLT, Nat.reduceEqDiff, aBin, aLen, QlD, QlE, QlF, QlI, QlG, QlS, QlW, Q1, goInt, Qma, QlL, QlH, un27, z, QG]) | (with_reducible refine Qn ?_) | ((with_reducible refine hK _ ?_); clear hK))
    simp only [QN, Qp, Qu, upd, ↓reduceIte, QlJ, QlN]; first | refine Qe (htake _ _) (.keep (.v _)) ⟨by rw [Qcc, decide_eq_false q, Bool.false_or], rfl⟩ | refine Qe List.take_length (.keep (.v _)) ⟨by rw [Qcc, decide_eq_false q, Bool.false_or], rfl⟩
end Go.Proofs.YtenheconhibonaaGreatDoor.Ab
set_option maxRecDepth 4000
namespace Go.Proofs.YtenheconhibonaaGreatDoor.Ab
open Go.Proofs
theorem Qf9 (n : Int) : cmpI n n = 0 := by simp [cmpI]
theorem QbG : ∀ l : List UInt8, Op.bytesLess l l = false
  | [] => rfl
  | a :: l => by simp [Op.bytesLess, QbG l]
theorem Qgk (s : ByteArray) : cmpS s s = 0 := by simp [cmpS, QbG]
mutual
theorem QiE : ∀ t : T, cmpT t t = 0
  | .mk k i n l => by
    have h0 : ((0 : Int) != 0) = false := rfl
    simp only [cmpT, Qf9, Qgk, QbU l, h0, QlH, ↓reduceIte, or3, orL, ite_self]
theorem QbU : ∀ l : List T, cmpL l l = 0
  | [] => by simp [cmpL]
  | t :: l => by simp [cmpL, QiE t, QbU l]
end
def gN : List G → Nat
  | [] => 0
  | p :: l => 1 + ndsL p.args + gN l
theorem QfU : ∀ {l : List G} {k : Nat} (h : k < l.length), ndsL (l[k]).args ≤ gN l
  | p :: l, 0, _ => by simp only [List.getElem_cons_zero, gN]; omega
  | p :: l, k + 1, h => by
    have := QfU (l := l) (k := k) (by simpa using h)
    simp only [List.getElem_cons_succ, gN]; omega
theorem Qa4 : ∀ l : List G, l.length ≤ gN l
  | [] => by simp [gN]
  | p :: l => by
    have := Qa4 l
    simp only [gN, QlQ]; omega
theorem QcY (p : G) (hn : ndsL p.args ≤ 1000000) : Pure Tryz.prog 134 [p.atom, p.atom] (.i 0) := by
  intro h
  have hl := XK p.args
  have c1 := Qht p.name p.name
  rw [Qgk] at c1
  have c2 := Qcl p.args.length p.args.length
  rw [Qf9] at c2
  have c3 := Qct 1000000 (Z6 1000000 (Nat.le_refl _)) p.args p.args hn (by omega)
  rw [QbU] at c3
  have z0 : ((0 : Int) == 0) = true := rfl
  refine Qh Tryz.func134 rfl Tryz.call134 Tryz.ntmps134 (congrArg Array.toList Tryz.results134) (by simp) ?_
  repeat (first | ((first | (with_reducible (first | refine Qa fun K E hK hE => ?_ | refine Qo fun K E hK hE => ?_ | refine Qs c1 ?_ | refine Qs c2 ?_ | refine Qs c3 ?_))); simp -implicitDefEqProofs only [Qd, Qb, Qg, OpW, QR, aop, undef, AS.ev, Qc, Qq, Qk, QD, QlK, Ql3, AV.Qk5, QlX, QlY, QA, QI, QlZ, ↓reduceIte, QlQ, QlR, Nat.reduceAdd, Nat.reduceLT, Nat.reduceEqDiff, QlP, Ql2, Ql, QK, QL, aBin, aLen, QO, hget, hlen, happ, QlD, QlE, QlF, QlS, QlW, Ql5, Ql4, QS, goInt, QlL, QE, ti9, ti44, un44, YQ, YM, XB]) | (with_reducible (first | refine Qi fun K hK => ?_ | refine Qn ?_ | refine Qf ?_)) | ((with_reducible refine hK _ ?_); clear hK) | (refine Qj rfl ?_; simp only [↓reduceIte]))
  simp only [QN, Qp, Qu, upd, ↓reduceIte, QlJ, QlN]; first | refine Qe (htake _ _) (.keep (.v _)) ⟨rfl, rfl⟩ | refine Qe List.take_length (.keep (.v _)) ⟨rfl, rfl⟩
theorem QeU (p : G) (hn : ndsL p.args ≤ 1000000) : Pure Tryz.prog 95 [p.atom, p.atom] (.b true) := by
  intro h
  have c := QcY p hn
  have z0 : ((0 : Int) == 0) = true := rfl
  refine Qh Tryz.func95 rfl Tryz.call95 Tryz.ntmps95 (congrArg Array.toList Tryz.results95) (by simp) ?_
  repeat (first | ((first | (with_reducible (first | refine Qa fun K E hK hE => ?_ | refine Qs c ?_))); simp -implicitDefEqProofs only [Qd, Qb, Qg, OpW, QR, aop, undef, AS.ev, Qc, Qq, Qr, Qk, QD, QlK, Ql3, AV.Qk5, QlX, QlY, QA, QI, QlZ, ↓reduceIte, QlQ, QlR, Nat.reduceAdd, Nat.reduceLT, Nat.reduceEqDiff, QlP, Qmb, QK, QL, aBin, QO, hget, hlen, happ, QlD, QlE, QlF, QlS, QlW, Ql5, Ql4, QS, QlL, ti66, XB, Y7]) | (with_reducible refine Qn ?_) | ((with_reducible refine hK _ ?_); clear hK))
  simp only [QN, Qp, Qu, upd, ↓reduceIte, QlJ, QlN]; first | refine Qe (htake _ _) (.keep (.v _)) ⟨rfl, rfl⟩ | refine Qe List.take_length (.keep (.v _)) ⟨rfl, rfl⟩
theorem Qfk (p : G) (hn : ndsL p.args ≤ 1000000) : Pure Tryz.prog 70 [p.goal, p.goal] (.b true) := by
  intro h
  have c1 := Qd3 p.args p.args hn
  rw [QbU] at c1
  have z0 : ((0 : Int) == 0) = true := rfl
  simp only [z0] at c1
  have z1 : (p.op == p.op) = true := by simp
  have z2 : (p.name.toList == p.name.toList) = true := by simp
  have z3 : ((p.args.length : Int) == (p.args.length : Int)) = true := by simp
  refine Qh Tryz.func70 rfl Tryz.call70 Tryz.ntmps70 (congrArg Array.toList Tryz.results70) (by simp) ?_
  (with_reducible refine Qa fun K E hK hE => ?_)
  simp -implicitDefEqProofs only [Qd, Qb, Qg, OpW, aop, undef, AS.ev, Qc, Qr, Qk, QD, QlK, Ql3, AV.Qk5, QlX, QlY, QC, QA, QI, QlZ, ↓reduceIte, QlQ, QlR, Nat.reduceAdd, Nat.reduceLT, Nat.reduceEqDiff, QlP, hlen, happ, Ql5, Ql4, Q3]
  (with_reducible refine hK _ ?_)
  clear hK
  (with_reducible refine Qa fun K E hK hE => ?_)
  (try simp only [Qme]); refine Qz 6 (fun K1 hK1 => ?_); simp -implicitDefEqProofs only [Qd, Qb, Qg, OpW, aop, AS.ev, Qc, Qk, ↓reduceIte, Nat.reduceLT, Nat.reduceEqDiff, Ql2, Ql, QK, QL, aBin, QO, hget, QlD, QlE, QlF, QlO, QlV, QS, QlL, ti3, XG, Q3]; (repeat ((((with_reducible refine Qa fun K E hK hE => ?_)); simp -implicitDefEqProofs only [Qd, Qb, Qg, OpW, QR, aop, undef, YS, Qmj, Qmk, Zh, Yo, YF, AS.ev, Qc, QY, Qq, Qr, QF, Xq, YG, Xt, Xz, Xn, YJ, Qk, QD, QlK, Ql3, AV.Qk5, Qy, Q6, Xs, XY, Xh, XU, Yp, Yk, X0, QM, Xy, XJ, X4, XQ, X2, Yj, Yi, XZ, QlX, QlY, QC, XI, QA, QP, X1, Xc, Xp, Xi, QI, X3, Xm, XX, Yn, Ym, XW, QlZ, Qmm, Qmn, Ql0, Ql1, ↓reduceIte, QlQ, QlR, Nat.reduceAdd, Nat.reduceLT, Nat.reduceLeDiff, Nat.reduceEqDiff, Nat.reduceSub, Nat.reduceMul, QlP, Ql2, Qmc, Qmd, Qmb, Xo, Xr, Ql, QK, QL, aBin, aLen, QO, hget, Yg, hset, hlen, happ, QlD, QlE, Qmt, Ql7, Ql8, QlF, Qmi, QlI, Qmh, QlJ, Qme, QlG, QlS, QlW, Ql5, Ql4, Ql6, QlO, QlV, QlM, QlU, QS, QZ, goInt, Ql9, Qma, QlL, Qmo, Qmg, Int.toNat_zero, Int.toNat_one, Qmf, Qmr, Qms, Qmp, QlH, Qml, beq_true, beq_false, rng0, rng1, rng2, rng3, rng4, rng5, rng6, rng7, rng8, Xa, Nat.reducePow, Nat.zero_le, Nat.zero_mul, T.Qk4, T.Qk6, QE, Xg, ti0, zi0, ti3, zi3, un3, ti4, zi4, un4, ti9, ei9, zi9, un9, ti44, ei44, ai44, zi44, un44, ti53, XG, Yy, Ya, zi53, sp53, ti69, Xu, XS, XM, XN, zi69, sp69, Qmq, Int.sub_zero, Zz, Q5, Q3, Yb, z1, z2, z3]))); refine hK1 _ ?_; clear hK1
  (try simp only [QlM, QlU]); refine Qz 6 (fun K1 hK1 => ?_); simp -implicitDefEqProofs only [Qd, Qb, Qg, OpW, aop, AS.ev, Qc, Qk, ↓reduceIte, Nat.reduceLT, Nat.reduceEqDiff, QlP, Ql, QK, QL, aBin, QO, hget, QlD, QlE, QlF, QlI, QlG, QlO, QlV, QZ, QlL, ti9, Yy, Q3]; (repeat ((((with_reducible refine Qa fun K E hK hE => ?_)); simp -implicitDefEqProofs only [Qd, Qb, Qg, OpW, QR, aop, undef, YS, Qmj, Qmk, Zh, Yo, YF, AS.ev, Qc, QY, Qq, Qr, QF, Xq, YG, Xt, Xz, Xn, YJ, Qk, QD, QlK, Ql3, AV.Qk5, Qy, Q6, Xs, XY, Xh, XU, Yp, Yk, X0, QM, Xy, XJ, X4, XQ, X2, Yj, Yi, XZ, QlX, QlY, QC, XI, QA, QP, X1, Xc, Xp, Xi, QI, X3, Xm, XX, Yn, Ym, XW, QlZ, Qmm, Qmn, Ql0, Ql1, ↓reduceIte, QlQ, QlR, Nat.reduceAdd, Nat.reduceLT, Nat.reduceLeDiff, Nat.reduceEqDiff, Nat.reduceSub, Nat.reduceMul, QlP, Ql2, Qmc, Qmd, Qmb, Xo, Xr, Ql, QK, QL, aBin, aLen, QO, hget, Yg, hset, hlen, happ, QlD, QlE, Qmt, Ql7, Ql8, QlF, Qmi, QlI, Qmh, QlJ, Qme, QlG, QlS, QlW, Ql5, Ql4, Ql6, QlO, QlV, QlM, QlU, QS, QZ, goInt, Ql9, Qma, QlL, Qmo, Qmg, Int.toNat_zero, Int.toNat_one, Qmf, Qmr, Qms, Qmp, QlH, Qml, beq_true, beq_false, rng0, rng1, rng2, rng3, rng4, rng5, rng6, rng7, rng8, Xa, Nat.reducePow, Nat.zero_le, Nat.zero_mul, T.Qk4, T.Qk6, QE, Xg, ti0, zi0, ti3, zi3, un3, ti4, zi4, un4, ti9, ei9, zi9, un9, ti44, ei44, ai44, zi44, un44, ti53, XG, Yy, Ya, zi53, sp53, ti69, Xu, XS, XM, XN, zi69, sp69, Qmq, Int.sub_zero, Zz, Q5, Q3, Yb, z1, z2, z3]))); refine hK1 _ ?_; clear hK1
  (try simp only [QlM, QlU]); refine Qz 6 (fun K1 hK1 => ?_); simp -implicitDefEqProofs only [Qd, Qb, Qg, OpW, aop, AS.ev, Qc, Qk, ↓reduceIte, Nat.reduceLT, Nat.reduceEqDiff, QlP, Ql, QK, QL, aLen, QO, hget, QlD, QlE, QlF, QlI, QlG, QlO, QlV, goInt, QlL, QE, ti44, un44, Ya, Q3]; (repeat ((((with_reducible refine Qa fun K E hK hE => ?_)); simp -implicitDefEqProofs only [Qd, Qb, Qg, OpW, QR, aop, undef, YS, Qmj, Qmk, Zh, Yo, YF, AS.ev, Qc, QY, Qq, Qr, QF, Xq, YG, Xt, Xz, Xn, YJ, Qk, QD, QlK, Ql3, AV.Qk5, Qy, Q6, Xs, XY, Xh, XU, Yp, Yk, X0, QM, Xy, XJ, X4, XQ, X2, Yj, Yi, XZ, QlX, QlY, QC, XI, QA, QP, X1, Xc, Xp, Xi, QI, X3, Xm, XX, Yn, Ym, XW, QlZ, Qmm, Qmn, Ql0, Ql1, ↓reduceIte, QlQ, QlR, Nat.reduceAdd, Nat.reduceLT, Nat.reduceLeDiff, Nat.reduceEqDiff, Nat.reduceSub, Nat.reduceMul, QlP, Ql2, Qmc, Qmd, Qmb, Xo, Xr, Ql, QK, QL, aBin, aLen, QO, hget, Yg, hset, hlen, happ, QlD, QlE, Qmt, Ql7, Ql8, QlF, Qmi, QlI, Qmh, QlJ, Qme, QlG, QlS, QlW, Ql5, Ql4, Ql6, QlO, QlV, QlM, QlU, QS, QZ, goInt, Ql9, Qma, QlL, Qmo, Qmg, Int.toNat_zero, Int.toNat_one, Qmf, Qmr, Qms, Qmp, QlH, Qml, beq_true, beq_false, rng0, rng1, rng2, rng3, rng4, rng5, rng6, rng7, rng8, Xa, Nat.reducePow, Nat.zero_le, Nat.zero_mul, T.Qk4, T.Qk6, QE, Xg, ti0, zi0, ti3, zi3, un3, ti4, zi4, un4, ti9, ei9, zi9, un9, ti44, ei44, ai44, zi44, un44, ti53, XG, Yy, Ya, zi53, sp53, ti69, Xu, XS, XM, XN, zi69, sp69, Qmq, Int.sub_zero, Zz, Q5, Q3, Yb, z1, z2, z3]))); refine hK1 _ ?_; clear hK1
  (try simp only [QlM, QlU]); refine Qz 6 (fun K1 hK1 => ?_); simp -implicitDefEqProofs only [Qd, Qb, Qg, OpW, aop, AS.ev, Qc, Qk, ↓reduceIte, Nat.reduceLT, Nat.reduceEqDiff, QlP, Ql, QK, QL, aBin, aLen, QO, QlD, QlE, QlF, QlI, QlG, QlO, QlV, QS, goInt, QlL, QE, ti44, un44, Ya, Q3]; (repeat ((((with_reducible refine Qa fun K E hK hE => ?_)); simp -implicitDefEqProofs only [Qd, Qb, Qg, OpW, QR, aop, undef, YS, Qmj, Qmk, Zh, Yo, YF, AS.ev, Qc, QY, Qq, Qr, QF, Xq, YG, Xt, Xz, Xn, YJ, Qk, QD, QlK, Ql3, AV.Qk5, Qy, Q6, Xs, XY, Xh, XU, Yp, Yk, X0, QM, Xy, XJ, X4, XQ, X2, Yj, Yi, XZ, QlX, QlY, QC, XI, QA, QP, X1, Xc, Xp, Xi, QI, X3, Xm, XX, Yn, Ym, XW, QlZ, Qmm, Qmn, Ql0, Ql1, ↓reduceIte, QlQ, QlR, Nat.reduceAdd, Nat.reduceLT, Nat.reduceLeDiff, Nat.reduceEqDiff, Nat.reduceSub, Nat.reduceMul, QlP, Ql2, Qmc, Qmd, Qmb, Xo, Xr, Ql, QK, QL, aBin, aLen, QO, hget, Yg, hset, hlen, happ, QlD, QlE, Qmt, Ql7, Ql8, QlF, Qmi, QlI, Qmh, QlJ, Qme, QlG, QlS, QlW, Ql5, Ql4, Ql6, QlO, QlV, QlM, QlU, QS, QZ, goInt, Ql9, Qma, QlL, Qmo, Qmg, Int.toNat_zero, Int.toNat_one, Qmf, Qmr, Qms, Qmp, QlH, Qml, beq_true, beq_false, rng0, rng1, rng2, rng3, rng4, rng5, rng6, rng7, rng8, Xa, Nat.reducePow, Nat.zero_le, Nat.zero_mul, T.Qk4, T.Qk6, QE, Xg, ti0, zi0, ti3, zi3, un3, ti4, zi4, un4, ti9, ei9, zi9, un9, ti44, ei44, ai44, zi44, un44, ti53, XG, Yy, Ya, zi53, sp53, ti69, Xu, XS, XM, XN, zi69, sp69, Qmq, Int.sub_zero, Zz, Q5, Q3, Yb, z1, z2, z3]))); refine hK1 _ ?_; clear hK1
  simp only [QlM, QlU]
  simp -implicitDefEqProofs only [Qb, Qg, OpW, aop, AS.ev, Qc, Qk, ↓reduceIte, Nat.reduceLT, Nat.reduceEqDiff, QlP, Ql, QK, QL, hget, QlD, QlE, QlF, QlI, QlG, QlS, QlW, QlL, ti44, Ya, Q3]
  repeat (first | (((with_reducible refine Qs c1 ?_)); simp -implicitDefEqProofs only [Qd, Qb, Qg, OpW, QR, aop, AS.ev, Qc, Qk, ↓reduceIte, Nat.reduceLT, Nat.reduceEqDiff]) | (with_reducible refine Qn ?_) | ((with_reducible refine hK _ ?_); clear hK))
  simp only [QN, Qp, Qu, upd, ↓reduceIte, QlJ, QlN]; first | refine Qe (htake _ _) (.keep (.v _)) ⟨rfl, rfl⟩ | refine Qe List.take_length (.keep (.v _)) ⟨rfl, rfl⟩
theorem Qbz (l : List G) (hn : gN l ≤ 1000000) : Pure Tryz.prog 46 [.sl 2 (vs G.atom l) none, .sl 2 (vs G.atom l) none] (.b true) := by
  intro h
  have hll := Qa4 l
  have hb : ((l.length : Int) != (l.length : Int)) = false := by simp
  refine Qh Tryz.func46 rfl Tryz.call46 Tryz.ntmps46 (congrArg Array.toList Tryz.results46) (by simp) ?_
  repeat (first | (((with_reducible refine Qa fun K E hK hE => ?_)); simp -implicitDefEqProofs only [Qd, Qb, Qg, OpW, aop, undef, AS.ev, Qc, Qq, Qr, Qk, QD, QlK, Ql3, ↓reduceIte, Nat.reduceLT, Nat.reduceEqDiff, aBin, aLen, QlF, XA, goInt, Qmo, un22, QG]) | (with_reducible (first | refine Qi fun K hK => ?_ | refine Qm ?_ | refine Qv ?_ | refine Qf ?_)) | ((with_reducible refine hK _ ?_); clear hK) | (refine Qj rfl ?_; simp only [↓reduceIte, QlH]))
  obtain ⟨I, hI⟩ : ∃ I : Nat → AS → Prop, I = fun m' s => ∃ j : Nat, m' = l.length - j ∧ j ≤ l.length ∧ s.tm 0 = .sl 2 (vs G.atom l) none ∧ s.tm 1 = .sl 2 (vs G.atom l) none ∧ s.tm 5 = .i j ∧ s.h = h := ⟨_, rfl⟩; refine Q9 I ?_ (m := l.length) ?_
  · intro m' s hs; rw [hI] at hs; obtain ⟨tm, hp⟩ := s; dsimp only at hs; obtain ⟨j, rfl, hj, t0, t1, t5, rfl⟩ := hs
    by_cases hlt : j < l.length
    · have hc := QeU l[j] (Nat.le_trans (QfU hlt) hn)
      repeat (first | ((first | (with_reducible (first | refine Qa fun K E hK hE => ?_ | refine Qo fun K E hK hE => ?_ | refine QQ hc ?_)) | (refine QX (id := 6) [(0, 0), (1, 0), (2, 0), (3, 0), (4, 0), (5, 0), (6, 0), (7, 0), (8, 1), (9, 0)] mixed (by kernel_rfl) fun K hK => ?_)); simp -implicitDefEqProofs only [Xk, Xd, Xw, Qd, Qb, Qg, OpW, aop, AS.ev, Qc, Qq, Qk, Ql0, ↓reduceIte, QlQ, QlR, Nat.reduceAdd, Nat.reduceLT, Nat.reduceLeDiff, Nat.reduceEqDiff, QlP, Qmb, QK, QL, QJ, aBin, aLen, QlD, QlE, QlF, QlI, QlG, QlS, QlW, QW, Xf, Xb, goInt, Ql9, QlL, Qmg, Qmf, Qmr, ei22, un22, ti66, t0, t1, t5, hlt, QG, YN G.atom hlt, XB, Y7]) | (with_reducible (first | refine Qi fun K hK => ?_ | refine Qm ?_ | refine Qv ?_ | refine Qf ?_ | refine Qw ?_)) | ((with_reducible refine hK _ ?_); clear hK) | (refine Qj rfl ?_; simp only [↓reduceIte, QlH]))
      refine XD.mk (m' := l.length - (j + 1)) (by omega) ?_
      rw [hI]
      refine ⟨j + 1, rfl, hlt, t0, t1, ?_, rfl⟩
      simp only [upd, ↓reduceIte]
      rw [Xe (by omega)]
    · repeat (first | (((with_reducible refine Qa fun K E hK hE => ?_)); simp -implicitDefEqProofs only [Qd, Qb, Qg, OpW, aop, undef, AS.ev, Qc, Qr, Qk, ↓reduceIte, Nat.reduceLT, Nat.reduceEqDiff, aBin, aLen, QlD, QlE, QlF, QlI, QlG, QW, goInt, Qma, Qmr, QlH, beq_true, un22, t0, t5, hlt, QG]) | (with_reducible (first | refine Qi fun K hK => ?_ | refine Qn ?_ | refine Q2 ?_ | refine Qf ?_ | refine QU ?_ | refine QV ?_)) | ((with_reducible refine hK _ ?_); clear hK) | (clear hK; (with_reducible refine hK _ ?_); clear hK) | (refine Qj rfl ?_; simp only [↓reduceIte, QlH]))
      simp only [QN, Qp, Qu, upd, ↓reduceIte, QlJ, QlN]; first | refine Qe (htake _ _) (.keep (.v _)) ⟨rfl, rfl⟩ | refine Qe List.take_length (.keep (.v _)) ⟨rfl, rfl⟩
  · rw [hI]
    exact ⟨0, by omega, Nat.zero_le _, rfl, rfl, rfl, rfl⟩
theorem QbH (l : List G) (hn : gN l ≤ 1000000) : Pure Tryz.prog 24 [.sl 3 (vs G.goal l) none, .sl 3 (vs G.goal l) none] (.b true) := by
  intro h
  have hll := Qa4 l
  have hb : ((l.length : Int) != (l.length : Int)) = false := by simp
  refine Qh Tryz.func24 rfl Tryz.call24 Tryz.ntmps24 (congrArg Array.toList Tryz.results24) (by simp) ?_
  repeat (first | (((with_reducible refine Qa fun K E hK hE => ?_)); simp -implicitDefEqProofs only [Qd, Qb, Qg, OpW, aop, undef, AS.ev, Qc, Qq, Qr, Qk, QD, QlK, Ql3, ↓reduceIte, Nat.reduceLT, Nat.reduceEqDiff, aBin, aLen, QlF, XA, goInt, Qmo, un23, QG]) | (with_reducible (first | refine Qi fun K hK => ?_ | refine Qm ?_ | refine Qv ?_ | refine Qf ?_)) | ((with_reducible refine hK _ ?_); clear hK) | (refine Qj rfl ?_; simp only [↓reduceIte, QlH]))
  obtain ⟨I, hI⟩ : ∃ I : Nat → AS → Prop, I = fun m' s => ∃ j : Nat, m' = l.length - j ∧ j ≤ l.length ∧ s.tm 0 = .sl 3 (vs G.goal l) none ∧ s.tm 1 = .sl 3 (vs G.goal l) none ∧ s.tm 5 = .i j ∧ s.h = h := ⟨_, rfl⟩; refine Q9 I ?_ (m := l.length) ?_
  · intro m' s hs; rw [hI] at hs; obtain ⟨tm, hp⟩ := s; dsimp only at hs; obtain ⟨j, rfl, hj, t0, t1, t5, rfl⟩ := hs
    by_cases hlt : j < l.length
    · have hc := Qfk l[j] (Nat.le_trans (QfU hlt) hn)
      repeat (first | ((first | (with_reducible (first | refine Qa fun K E hK hE => ?_ | refine Qo fun K E hK hE => ?_ | refine QQ hc ?_)) | (refine QX (id := 6) [(0, 0), (1, 0), (2, 0), (3, 0), (4, 0), (5, 0), (6, 0), (7, 0), (8, 1), (9, 0)] mixed (by kernel_rfl) fun K hK => ?_)); simp -implicitDefEqProofs only [Xk, Xd, Xw, Qd, Qb, Qg, OpW, aop, AS.ev, Qc, Qq, Qk, Ql0, ↓reduceIte, QlQ, QlR, Nat.reduceAdd, Nat.reduceLT, Nat.reduceLeDiff, Nat.reduceEqDiff, QlP, Qmb, QK, QL, QJ, aBin, aLen, QlD, QlE, QlF, QlI, QlG, QlS, QlW, QW, Xf, Xb, goInt, Ql9, QlL, Qmg, Qmf, Qmr, ei23, un23, ti53, t0, t1, t5, hlt, QG, YN G.goal hlt, Q3, Yb]) | (with_reducible (first | refine Qi fun K hK => ?_ | refine Qm ?_ | refine Qv ?_ | refine Qf ?_ | refine Qw ?_)) | ((with_reducible refine hK _ ?_); clear hK) | (refine Qj rfl ?_; simp only [↓reduceIte, QlH]))
      refine XD.mk (m' := l.length - (j + 1)) (by omega) ?_
      rw [hI]
      refine ⟨j + 1, rfl, hlt, t0, t1, ?_, rfl⟩
      simp only [upd, ↓reduceIte]
      rw [Xe (by omega)]
    · repeat (first | (((with_reducible refine Qa fun K E hK hE => ?_)); simp -implicitDefEqProofs only [Qd, Qb, Qg, OpW, aop, undef, AS.ev, Qc, Qr, Qk, ↓reduceIte, Nat.reduceLT, Nat.reduceEqDiff, aBin, aLen, QlD, QlE, QlF, QlI, QlG, QW, goInt, Qma, Qmr, QlH, beq_true, un23, t0, t5, hlt, QG]) | (with_reducible (first | refine Qi fun K hK => ?_ | refine Qn ?_ | refine Q2 ?_ | refine Qf ?_ | refine QU ?_ | refine QV ?_)) | ((with_reducible refine hK _ ?_); clear hK) | (clear hK; (with_reducible refine hK _ ?_); clear hK) | (refine Qj rfl ?_; simp only [↓reduceIte, QlH]))
      simp only [QN, Qp, Qu, upd, ↓reduceIte, QlJ, QlN]; first | refine Qe (htake _ _) (.keep (.v _)) ⟨rfl, rfl⟩ | refine Qe List.take_length (.keep (.v _)) ⟨rfl, rfl⟩
  · rw [hI]
    exact ⟨0, by omega, Nat.zero_le _, rfl, rfl, rfl, rfl⟩
theorem QeM (r : Rl) (hs : gN r.keep ≤ 1000000 ∧ gN r.remove ≤ 1000000 ∧ gN r.guard ≤ 1000000 ∧ gN r.body ≤ 1000000) : Pure Tryz.prog 12 [r.av, r.av] (.b true) := by
  intro h
  obtain ⟨s1, s2, s3, s4⟩ := hs
  have c1 := Qbz r.keep s1
  have c2 := Qbz r.remove s2
  have c3 := QbH r.guard s3
  have c4 := QbH r.body s4
  have z1 : (r.vars == r.vars) = true := by simp
  have z2 : (r.name.toList == r.name.toList) = true := by simp
  refine Qh Tryz.func12 rfl Tryz.call12 Tryz.ntmps12 (congrArg Array.toList Tryz.results12) (by simp) ?_
  (with_reducible refine Qa fun K E hK hE => ?_)
  simp -implicitDefEqProofs only [Qd, Qb, Qg, OpW, aop, undef, AS.ev, Qc, Qr, Qk, QD, QlK, Ql3, AV.Qk5, QlX, QlY, QC, QA, QI, QlZ, ↓reduceIte, QlQ, QlR, Nat.reduceAdd, Nat.reduceLT, Nat.reduceEqDiff, QlP, hlen, happ, Ql5, Ql4, Rl.cells]
  (with_reducible refine hK _ ?_)
  clear hK
  (with_reducible refine Qa fun K E hK hE => ?_)
  (try simp only [Qme]); refine Qz 6 (fun K1 hK1 => ?_); simp -implicitDefEqProofs only [Qd, Qb, Qg, OpW, aop, AS.ev, Qc, Qk, ↓reduceIte, Nat.reduceLT, Nat.reduceEqDiff, Ql2, Ql, QK, QL, aBin, QO, hget, QlD, QlE, QlF, QlO, QlV, QZ, QlL, ti9, XT, Rl.cells]; (repeat ((((with_reducible refine Qa fun K E hK hE => ?_)); simp -implicitDefEqProofs only [Qd, Qb, Qg, OpW, QR, aop, undef, YS, Qmj, Qmk, Zh, Yo, YF, AS.ev, Qc, QY, Qq, Qr, QF, Xq, YG, Xt, Xz, Xn, YJ, Qk, QD, QlK, Ql3, AV.Qk5, Qy, Q6, Xs, XY, Xh, XU, Yp, Yk, X0, QM, Xy, XJ, X4, XQ, X2, Yj, Yi, XZ, QlX, QlY, QC, XI, QA, QP, X1, Xc, Xp, Xi, QI, X3, Xm, XX, Yn, Ym, XW, QlZ, Qmm, Qmn, Ql0, Ql1, ↓reduceIte, QlQ, QlR, Nat.reduceAdd, Nat.reduceLT, Nat.reduceLeDiff, Nat.reduceEqDiff, Nat.reduceSub, Nat.reduceMul, QlP, Ql2, Qmc, Qmd, Qmb, Xo, Xr, Ql, QK, QL, aBin, QO, hget, Yg, hset, hlen, happ, QlD, QlE, Qmt, Ql7, Ql8, QlF, Qmi, QlI, Qmh, QlJ, Qme, QlG, QlS, QlW, Ql5, Ql4, Ql6, QlO, QlV, QlM, QlU, QS, QZ, goInt, Ql9, Qma, QlL, Qmo, Qmg, Int.toNat_zero, Int.toNat_one, Qmf, Qmr, Qms, Qmp, QlH, Qml, beq_true, beq_false, rng0, rng1, rng2, rng3, rng4, rng5, rng6, rng7, rng8, Xa, Nat.reducePow, Nat.zero_le, Nat.zero_mul, T.Qk4, T.Qk6, QE, Xg, ti0, zi0, ti3, zi3, un3, ti4, zi4, un4, ti9, ei9, zi9, un9, ti22, ei22, ai22, zi22, un22, ti23, ei23, ai23, zi23, un23, ti25, XT, X7, X6, XR, XP, Zo, zi25, sp25, ti53, XG, Yy, Ya, zi53, sp53, ti66, YQ, YM, zi66, sp66, Qmq, Int.sub_zero, Zz, Q5, Rl.cells, Rl.isAgg, z1, z2]))); refine hK1 _ ?_; clear hK1
  (try simp only [QlM, QlU]); refine Qz 6 (fun K1 hK1 => ?_); simp -implicitDefEqProofs only [Qd, Qb, Qg, OpW, aop, AS.ev, Qc, Qk, ↓reduceIte, Nat.reduceLT, Nat.reduceEqDiff, QlP, Ql, QK, QL, aBin, QO, hget, QlD, QlE, QlF, QlI, QlG, QlO, QlV, QS, QlL, ti3, Zo, Rl.cells]; (repeat ((((with_reducible refine Qa fun K E hK hE => ?_)); simp -implicitDefEqProofs only [Qd, Qb, Qg, OpW, QR, aop, undef, YS, Qmj, Qmk, Zh, Yo, YF, AS.ev, Qc, QY, Qq, Qr, QF, Xq, YG, Xt, Xz, Xn, YJ, Qk, QD, QlK, Ql3, AV.Qk5, Qy, Q6, Xs, XY, Xh, XU, Yp, Yk, X0, QM, Xy, XJ, X4, XQ, X2, Yj, Yi, XZ, QlX, QlY, QC, XI, QA, QP, X1, Xc, Xp, Xi, QI, X3, Xm, XX, Yn, Ym, XW, QlZ, Qmm, Qmn, Ql0, Ql1, ↓reduceIte, QlQ, QlR, Nat.reduceAdd, Nat.reduceLT, Nat.reduceLeDiff, Nat.reduceEqDiff, Nat.reduceSub, Nat.reduceMul, QlP, Ql2, Qmc, Qmd, Qmb, Xo, Xr, Ql, QK, QL, aBin, QO, hget, Yg, hset, hlen, happ, QlD, QlE, Qmt, Ql7, Ql8, QlF, Qmi, QlI, Qmh, QlJ, Qme, QlG, QlS, QlW, Ql5, Ql4, Ql6, QlO, QlV, QlM, QlU, QS, QZ, goInt, Ql9, Qma, QlL, Qmo, Qmg, Int.toNat_zero, Int.toNat_one, Qmf, Qmr, Qms, Qmp, QlH, Qml, beq_true, beq_false, rng0, rng1, rng2, rng3, rng4, rng5, rng6, rng7, rng8, Xa, Nat.reducePow, Nat.zero_le, Nat.zero_mul, T.Qk4, T.Qk6, QE, Xg, ti0, zi0, ti3, zi3, un3, ti4, zi4, un4, ti9, ei9, zi9, un9, ti22, ei22, ai22, zi22, un22, ti23, ei23, ai23, zi23, un23, ti25, XT, X7, X6, XR, XP, Zo, zi25, sp25, ti53, XG, Yy, Ya, zi53, sp53, ti66, YQ, YM, zi66, sp66, Qmq, Int.sub_zero, Zz, Q5, Rl.cells, Rl.isAgg, z1, z2]))); refine hK1 _ ?_; clear hK1
  (try simp only [QlM, QlU]); refine Qz 6 (fun K1 hK1 => ?_); simp -implicitDefEqProofs only [Qb, Qg, OpW, aop, AS.ev, Qc, Qk, ↓reduceIte, Nat.reduceLT, Nat.reduceEqDiff, QlP, Ql, QK, QL, QO, hget, QlD, QlE, QlF, QlI, QlG, QlS, QlW, QlO, QlV, QlL, ti22, X7, Rl.cells]; (repeat ((((with_reducible refine Qs c1 ?_)); simp -implicitDefEqProofs only [Qd, QR, Qc, Nat.reduceLT]))); refine hK1 _ ?_; clear hK1
  (try simp only [QlM, QlU]); refine Qz 6 (fun K1 hK1 => ?_); simp -implicitDefEqProofs only [Qd, Qb, Qg, OpW, aop, AS.ev, Qc, Qk, ↓reduceIte, Nat.reduceLT, Nat.reduceEqDiff, QlP, Ql, QK, QL, QO, hget, QlD, QlE, QlF, QlI, QlG, QlO, QlV, QlL, ti22, X6, Rl.cells]; (repeat ((((with_reducible refine Qa fun K E hK hE => ?_)); simp -implicitDefEqProofs only [Qd, Qb, Qg, OpW, QR, aop, undef, YS, Qmj, Qmk, Zh, Yo, YF, AS.ev, Qc, QY, Qq, Qr, QF, Xq, YG, Xt, Xz, Xn, YJ, Qk, QD, QlK, Ql3, AV.Qk5, Qy, Q6, Xs, XY, Xh, XU, Yp, Yk, X0, QM, Xy, XJ, X4, XQ, X2, Yj, Yi, XZ, QlX, QlY, QC, XI, QA, QP, X1, Xc, Xp, Xi, QI, X3, Xm, XX, Yn, Ym, XW, QlZ, Qmm, Qmn, Ql0, Ql1, ↓reduceIte, QlQ, QlR, Nat.reduceAdd, Nat.reduceLT, Nat.reduceLeDiff, Nat.reduceEqDiff, Nat.reduceSub, Nat.reduceMul, QlP, Ql2, Qmc, Qmd, Qmb, Xo, Xr, Ql, QK, QL, aBin, QO, hget, Yg, hset, hlen, happ, QlD, QlE, Qmt, Ql7, Ql8, QlF, Qmi, QlI, Qmh, QlJ, Qme, QlG, QlS, QlW, Ql5, Ql4, Ql6, QlO, QlV, QlM, QlU, QS, QZ, goInt, Ql9, Qma, QlL, Qmo, Qmg, Int.toNat_zero, Int.toNat_one, Qmf, Qmr, Qms, Qmp, QlH, Qml, beq_true, beq_false, rng0, rng1, rng2, rng3, rng4, rng5, rng6, rng7, rng8, Xa, Nat.reducePow, Nat.zero_le, Nat.zero_mul, T.Qk4, T.Qk6, QE, Xg, ti0, zi0, ti3, zi3, un3, ti4, zi4, un4, ti9, ei9, zi9, un9, ti22, ei22, ai22, zi22, un22, ti23, ei23, ai23, zi23, un23, ti25, XT, X7, X6, XR, XP, Zo, zi25, sp25, ti53, XG, Yy, Ya, zi53, sp53, ti66, YQ, YM, zi66, sp66, Qmq, Int.sub_zero, Zz, Q5, Rl.cells, Rl.isAgg, z1, z2]))); refine hK1 _ ?_; clear hK1
  (try simp only [QlM, QlU]); refine Qz 6 (fun K1 hK1 => ?_); simp -implicitDefEqProofs only [Qb, Qg, OpW, AS.ev, Qk, ↓reduceIte, Nat.reduceEqDiff, QlD, QlE, QlI, QlG, QlS, QlW, QlO, QlV, QlL]; (repeat ((((with_reducible refine Qs c2 ?_)); simp -implicitDefEqProofs only [Qd, Qb, Qg, OpW, QR, aop, AS.ev, Qc, Qk, ↓reduceIte, Nat.reduceLT, Nat.reduceEqDiff, QlP, Ql, QK, QL, QO, hget, QlD, QlE, QlF, QlI, QlG, QlL, ti23, XR, Rl.cells]))); refine hK1 _ ?_; clear hK1
  (try simp only [QlM, QlU]); refine Qz 6 (fun K1 hK1 => ?_); simp -implicitDefEqProofs only [Qb, Qg, OpW, aop, AS.ev, Qc, Qk, ↓reduceIte, Nat.reduceLT, Nat.reduceEqDiff, QK, QL, hget, QlD, QlE, QlF, QlI, QlG, QlS, QlW, QlO, QlV, QlL, ti23, Rl.cells]; (repeat ((((with_reducible refine Qs c3 ?_)); simp -implicitDefEqProofs only [Qd, Qb, Qg, OpW, QR, aop, AS.ev, Qc, Qk, ↓reduceIte, Nat.reduceLT, Nat.reduceEqDiff, QlP, Ql, QK, QL, QO, QlD, QlE, QlF, QlI, QlG, QlL, ti23, XP, Rl.cells]))); refine hK1 _ ?_; clear hK1
  simp only [QlM, QlU]
  simp -implicitDefEqProofs only [Qb, Qg, OpW, aop, AS.ev, Qc, Qk, ↓reduceIte, Nat.reduceLT, Nat.reduceEqDiff, QlP, Ql, QK, QL, hget, QlD, QlE, QlF, QlI, QlG, QlS, QlW, QlL, ti23, XP, Rl.cells]
  repeat (first | (((with_reducible refine Qs c4 ?_)); simp -implicitDefEqProofs only [Qd, Qb, Qg, OpW, QR, aop, AS.ev, Qc, Qk, ↓reduceIte, Nat.reduceLT, Nat.reduceEqDiff]) | (with_reducible refine Qn ?_) | ((with_reducible refine hK _ ?_); clear hK))
  simp only [QN, Qp, Qu, upd, ↓reduceIte, QlJ, QlN]; first | refine Qe (htake _ _) (.keep (.v _)) ⟨rfl, rfl⟩ | refine Qe List.take_length (.keep (.v _)) ⟨rfl, rfl⟩
end Go.Proofs.YtenheconhibonaaGreatDoor.Ab
namespace Go.Proofs.YtenheconhibonaaGreatDoor.Ab
mutual
def T.dep : T → Nat
  | .mk k _ _ l => 1 + (if k = 2 then deps l else 0)
def deps : List T → Nat
  | [] => 0
  | t :: l => max t.dep (deps l)
end
theorem T.Qlv (t : T) : t.dep = 1 + deps t.uses := by
  cases t with | mk k i n l =>
  show T.dep (.mk k i n l) = 1 + deps (if k = 2 then l else [])
  simp only [T.dep]
  by_cases h : k = 2
  · simp [h]
  · simp [h, deps]
theorem QdL : ∀ l r : List T, deps (l ++ r) = max (deps l) (deps r)
  | [], r => by simp [deps]
  | t :: l, r => by simp only [Ql5, deps, QdL l r]; omega
theorem Qec {l : List T} {k : Nat} (h : k < l.length) : deps (l.take (k + 1)) = max (deps (l.take k)) (l[k]).dep := by
  rw [List.take_succ_eq_append_getElem h, QdL]; simp [deps]
mutual
theorem T.Qln : ∀ t : T, t.dep ≤ t.size
  | .mk k i n l => by
    simp only [T.dep, T.size]
    have := Qee l
    split <;> omega
theorem Qee : ∀ l : List T, deps l ≤ sizes l
  | [] => Nat.le_refl _
  | t :: l => by
    simp only [deps, sizes]
    have := T.Qln t
    have := Qee l
    omega
end
end Go.Proofs.YtenheconhibonaaGreatDoor.Ab
set_option maxRecDepth 4000
namespace Go.Proofs.YtenheconhibonaaGreatDoor.Ab
open Go.Proofs
theorem Qa5 (t : T) : Pure Tryz.prog 103 [t.av] (.sl 4 (avs t.uses) none) := by
  intro h
  refine Qh Tryz.func103 rfl Tryz.call103 Tryz.ntmps103 (congrArg Array.toList Tryz.results103) (by simp) ?_
  by_cases hk : t.kind = 2
  · have hb : (t.kind == 2) = true := by simpa using hk
    repeat (first | (((with_reducible refine Qa fun K E hK hE => ?_)); simp -implicitDefEqProofs only [Qd, Qb, Qg, OpW, aop, undef, AS.ev, Qc, Qq, Xq, Qk, QD, QlK, AV.Qk5, QlX, QlY, QC, QA, QI, QlZ, ↓reduceIte, QlQ, QlR, Nat.reduceAdd, Nat.reduceLT, Nat.reduceEqDiff, QlP, Ql2, Ql, QK, QL, aBin, QO, QlD, QlE, QlF, QS, T.Qk4, ti3, ti44, Xu, XN, hb, T.Qk4]) | (with_reducible (first | refine Qi fun K hK => ?_ | refine Qn ?_ | refine QB ?_)) | ((with_reducible refine hK _ ?_); clear hK) | (refine Qj rfl ?_; simp only [↓reduceIte]))
    simp only [QN, Qp, Qu, upd, ↓reduceIte, QlJ, QlN]
    refine Qe (htake _ _) (.keep (Qdy _ _)) ⟨by rw [T.uses, if_pos hk], rfl⟩
  · have hb : (t.kind == 2) = false := by simpa using hk
    repeat (first | (((with_reducible refine Qa fun K E hK hE => ?_)); simp -implicitDefEqProofs only [Qd, Qb, Qg, OpW, aop, undef, AS.ev, Qc, Qq, Xq, Qk, QD, QlK, AV.Qk5, QlX, QlY, QC, QA, QI, QlZ, ↓reduceIte, QlQ, QlR, Nat.reduceAdd, Nat.reduceLT, Nat.reduceEqDiff, QlP, Ql2, Ql, QK, QL, aBin, QO, QlD, QlF, QS, T.Qk4, ti3, Xu, hb, T.Qk4]) | (with_reducible (first | refine Qi fun K hK => ?_ | refine Qn ?_ | refine Qv ?_ | refine Qf ?_)) | ((with_reducible refine hK _ ?_); clear hK) | (refine Qj rfl ?_; simp only [↓reduceIte, QlH]))
    simp only [QN, Qp, Qu, upd, ↓reduceIte, QlJ, QlN]
    refine Qe (htake _ _) (.nil 4) ⟨by rw [T.uses, if_neg hk]; rfl, rfl⟩
theorem QiQ {t : T} {k : Nat} (h : k < t.uses.length) : (t.uses[k]).size < t.size := by
  have h1 := Qbd h
  have h2 := QaG t.uses (k + 1)
  have h3 := T.size_eq t
  omega
theorem QcE (n : Nat) : ∀ t : T, t.size ≤ n → n ≤ 1000000 → Pure Tryz.prog 152 [t.av] (.i (t.size : Nat)) := by
  induction n with
  | zero => intro t h; have := size_pos t; omega
  | succ n ih =>
    intro t hn hb h
    have hsz := T.size_eq t
    have hll := QaW t.uses
    have c0 := Qa5 t
    refine Qh Tryz.func152 rfl Tryz.call152 Tryz.ntmps152 (congrArg Array.toList Tryz.results152) (by simp) ?_
    repeat (first | ((first | (with_reducible (first | refine Qa fun K E hK hE => ?_ | refine Qs c0 ?_))); simp -implicitDefEqProofs only [Qd, Qb, Qg, OpW, QR, aop, undef, AS.ev, Qc, Qq, Qk, QD, QlK, AV.Qk5, QlX, QlY, QC, QA, QI, QlZ, ↓reduceIte, QlQ, QlR, Nat.reduceAdd, Nat.reduceLT, Nat.reduceEqDiff, QlP, Qmb, QK, QL, QO, QlD, QlF, QlS, QlW, T.Qk4, T.Qk6, ti69, T.Qk4, T.Qk6]) | (with_reducible (first | refine Qi fun K hK => ?_ | refine Qm ?_)) | ((with_reducible refine hK _ ?_); clear hK))
    obtain ⟨I, hI⟩ : ∃ I : Nat → AS → Prop, I = fun m' s => ∃ (k : Nat) (L : AH), m' = t.uses.length - k ∧ k ≤ t.uses.length ∧ s.tm 3 = .i ((1 + sizes (t.uses.take k) : Nat) : Int) ∧ s.tm 4 = .sl 4 (avs t.uses) none ∧ s.tm 5 = .i k ∧ s.h = h ++ L := ⟨_, rfl⟩; refine Q9 I ?_ (m := t.uses.length) ?_
    · intro m' s hs; rw [hI] at hs; obtain ⟨tm, hp⟩ := s; dsimp only at hs; obtain ⟨k, L, rfl, hk, t3, t4, t5, rfl⟩ := hs
      by_cases hlt : k < t.uses.length
      · have hts := Qbd hlt
        have htl := QaG t.uses (k + 1)
        have c := ih t.uses[k] (by have := QiQ hlt; omega) (by omega)
        repeat (first | ((first | (with_reducible (first | refine Qa fun K E hK hE => ?_ | refine Qo fun K E hK hE => ?_ | refine Qs c ?_))); simp -implicitDefEqProofs only [Qd, Qb, Qg, OpW, QR, aop, AS.ev, Qc, Qq, Qk, ↓reduceIte, QlQ, QlR, Nat.reduceAdd, Nat.reduceLT, Nat.reduceEqDiff, QlP, Qmb, QK, QL, QJ, aBin, aLen, QlF, QlS, QlW, QW, Xf, goInt, Ql9, Qmg, Qmf, Qmr, T.Qk4, T.Qk6, QE, ei44, un44, ti69, hlt, t3, t4, t5, QE, Y0 hlt, T.Qk4, T.Qk6]) | (with_reducible (first | refine Qi fun K hK => ?_ | refine Qm ?_ | refine Qv ?_ | refine Qf ?_ | refine Qw ?_)) | ((with_reducible refine hK _ ?_); clear hK) | (refine Qj rfl ?_; simp only [↓reduceIte]))
        refine XD.mk (m' := t.uses.length - (k + 1)) (by omega) ?_
        rw [hI]
        refine ⟨k + 1, _, rfl, hlt, ?_, t4, ?_, rfl⟩
        · simp only [upd, ↓reduceIte, Nat.reduceEqDiff]
          rw [Yh (by omega)]
          congr 2; omega
        · simp only [upd, ↓reduceIte]
          rw [Xe (by omega)]
      · have hkl : k = t.uses.length := by omega
        repeat (first | (((with_reducible refine Qa fun K E hK hE => ?_)); simp -implicitDefEqProofs only [Qd, Qb, Qg, OpW, aop, AS.ev, Qc, Qk, ↓reduceIte, Nat.reduceLT, Nat.reduceEqDiff, aBin, aLen, QlF, QW, goInt, Qma, Qmr, QE, un44, hlt, t3, t4, t5, QE]) | (with_reducible (first | refine Qi fun K hK => ?_ | refine Qn ?_ | refine Q2 ?_ | refine Qf ?_ | refine QU ?_ | refine QV ?_)) | ((with_reducible refine hK _ ?_); clear hK) | (clear hK; (with_reducible refine hK _ ?_); clear hK) | (refine Qj rfl ?_; simp only [↓reduceIte, QlH]))
        simp only [QN, Qp, Qu, upd, ↓reduceIte, QlJ, QlN]
        refine Qe (htake _ _) (.keep (.v _)) ⟨?_, rfl⟩
        rw [hkl, List.take_length, hsz]
    · rw [hI]
      exact ⟨0, [.cells 69 4 [t.av]], by omega, Nat.zero_le _, rfl, rfl, rfl, rfl⟩
theorem Qe9 (n : Nat) : ∀ t : T, t.size ≤ n → n ≤ 1000000 → Pure Tryz.prog 170 [t.av] (.i (t.dep : Nat)) := by
  induction n with
  | zero => intro t h; have := size_pos t; omega
  | succ n ih =>
    intro t hn hb h
    have hsz := T.size_eq t
    have hll := QaW t.uses
    have hde := T.Qlv t
    have hds := T.Qln t
    have c0 := Qa5 t
    refine Qh Tryz.func170 rfl Tryz.call170 Tryz.ntmps170 (congrArg Array.toList Tryz.results170) (by simp) ?_
    repeat (first | ((first | (with_reducible (first | refine Qa fun K E hK hE => ?_ | refine Qs c0 ?_))); simp -implicitDefEqProofs only [Qd, Qb, Qg, OpW, QR, aop, undef, AS.ev, Qc, Qq, Qk, QD, QlK, AV.Qk5, QlX, QlY, QC, QA, QI, QlZ, ↓reduceIte, QlQ, QlR, Nat.reduceAdd, Nat.reduceLT, Nat.reduceEqDiff, QlP, Qmb, QK, QL, QO, QlD, QlF, QlS, QlW, T.Qk4, T.Qk6, ti69, T.Qk4, T.Qk6]) | (with_reducible (first | refine Qi fun K hK => ?_ | refine Qm ?_)) | ((with_reducible refine hK _ ?_); clear hK))
    obtain ⟨I, hI⟩ : ∃ I : Nat → AS → Prop, I = fun m' s => ∃ (k : Nat) (L : AH), m' = t.uses.length - k ∧ k ≤ t.uses.length ∧ s.tm 3 = .i ((deps (t.uses.take k) : Nat) : Int) ∧ s.tm 4 = .sl 4 (avs t.uses) none ∧ s.tm 5 = .i k ∧ s.h = h ++ L := ⟨_, rfl⟩; refine Q9 I ?_ (m := t.uses.length) ?_
    · intro m' s hs; rw [hI] at hs; obtain ⟨tm, hp⟩ := s; dsimp only at hs; obtain ⟨k, L, rfl, hk, t3, t4, t5, rfl⟩ := hs
      by_cases hlt : k < t.uses.length
      · have hts := Qec hlt
        have c := ih t.uses[k] (by have := QiQ hlt; omega) (by omega)
        repeat (first | ((first | (with_reducible (first | refine Qa fun K E hK hE => ?_ | refine Qo fun K E hK hE => ?_ | refine Qs c ?_))); simp -implicitDefEqProofs only [Qd, Qb, Qg, OpW, QR, aop, AS.ev, Qc, Qq, Qk, ↓reduceIte, QlQ, QlR, Nat.reduceAdd, Nat.reduceLT, Nat.reduceEqDiff, QlP, Qmb, QK, QL, QJ, aBin, aLen, QlF, QlS, QlW, QW, Xf, QkV, goInt, Ql9, Qmg, Qmf, Qmr, T.Qk4, T.Qk6, QE, ei44, un44, ti69, hlt, t3, t4, t5, QE, Y0 hlt, T.Qk4, T.Qk6]) | (with_reducible (first | refine Qi fun K hK => ?_ | refine Qm ?_ | refine Qv ?_ | refine Qf ?_ | refine Qw ?_)) | ((with_reducible refine hK _ ?_); clear hK) | (refine Qj rfl ?_; simp only [↓reduceIte]))
        refine XD.mk (m' := t.uses.length - (k + 1)) (by omega) ?_
        rw [hI]
        refine ⟨k + 1, _, rfl, hlt, ?_, t4, ?_, rfl⟩
        · simp only [upd, ↓reduceIte, Nat.reduceEqDiff]
          rw [hts]
          congr 2
          split <;> omega
        · simp only [upd, ↓reduceIte]
          rw [Xe (by omega)]
      · have hkl : k = t.uses.length := by omega
        have hd2 : deps (t.uses.take k) = deps t.uses := by rw [hkl, List.take_length]
        rw [hd2] at t3
        repeat (first | (((with_reducible refine Qa fun K E hK hE => ?_)); simp -implicitDefEqProofs only [Qd, Qb, Qg, OpW, aop, AS.ev, Qc, Qq, Qk, ↓reduceIte, Nat.reduceLT, Nat.reduceEqDiff, aBin, aLen, QlF, QW, Xf, goInt, Qma, Qmr, QE, un44, hlt, t3, t4, t5, QE]) | (with_reducible (first | refine Qi fun K hK => ?_ | refine Qn ?_ | refine Q2 ?_ | refine Qf ?_ | refine QU ?_ | refine QV ?_)) | ((with_reducible refine hK _ ?_); clear hK) | (clear hK; (with_reducible refine hK _ ?_); clear hK) | (refine Qj rfl ?_; simp only [↓reduceIte, QlH]))
        simp only [QN, Qp, Qu, upd, ↓reduceIte, QlJ, QlN]
        refine Qe (htake _ _) (.keep (.v _)) ⟨?_, rfl⟩
        rw [Xe (by omega), hde, Nat.add_comm]
    · rw [hI]
      exact ⟨0, [.cells 69 4 [t.av]], by omega, Nat.zero_le _, rfl, rfl, rfl, rfl⟩
end Go.Proofs.YtenheconhibonaaGreatDoor.Ab
set_option maxRecDepth 4000
namespace Go.Proofs.YtenheconhibonaaGreatDoor.Ab
open Go.Proofs
theorem Qke (u : List Int) (own : Option Nat) (n : Int) (hb : u.length ≤ 1000000) : Pure Tryz.prog 102 [.sl 1 (ints u) own, .i n] (.b (decide (n ∈ u))) := by
  intro h
  refine Qh Tryz.func102 rfl Tryz.call102 Tryz.ntmps102 (congrArg Array.toList Tryz.results102) (by simp) ?_
  repeat (first | (((with_reducible refine Qa fun K E hK hE => ?_)); simp -implicitDefEqProofs only [Qd, Qb, Qg, OpW, aop, AS.ev, Qc, Qq, Qr, Nat.reduceLT]) | (with_reducible (first | refine Qi fun K hK => ?_ | refine Qm ?_)) | ((with_reducible refine hK _ ?_); clear hK))
  obtain ⟨I, hI⟩ : ∃ I : Nat → AS → Prop, I = fun m' s => ∃ j : Nat, m' = u.length - j ∧ j ≤ u.length ∧ (n ∈ u ↔ n ∈ u.drop j) ∧ s.tm 0 = .sl 1 (ints u) own ∧ s.tm 1 = .i n ∧ s.tm 5 = .i j ∧ s.h = h := ⟨_, rfl⟩; refine Q9 I ?_ (m := u.length) ?_
  · intro m' s hs; rw [hI] at hs; obtain ⟨tm, hp⟩ := s; dsimp only at hs; obtain ⟨j, rfl, hj, he, t0, t1, t5, rfl⟩ := hs
    by_cases hlt : j < u.length
    · rw [List.drop_eq_getElem_cons hlt, List.mem_cons] at he
      by_cases hz : u[j] = n
      · have hb1 : (u[j] == n) = true := by simpa using hz
        have hm : n ∈ u := he.2 (.inl hz.symm)
        repeat (first | (((with_reducible refine Qa fun K E hK hE => ?_)); simp -implicitDefEqProofs only [Qd, Qb, Qg, OpW, aop, AS.ev, Qc, Qr, Qk, Q6, ↓reduceIte, Nat.reduceLT, Nat.reduceEqDiff, Qmb, QK, QL, QJ, aBin, aLen, QlD, QlF, QS, QW, goInt, Ql9, Qmg, Qmf, Qmr, Xg, ti3, ei42, un42, t0, t1, t5, hlt, QhB hlt, hb1]) | (with_reducible (first | refine Qi fun K hK => ?_ | refine Qm ?_ | refine Qn ?_ | refine Qv ?_ | refine Qf ?_ | refine QB ?_ | refine QH ?_)) | ((with_reducible refine hK _ ?_); clear hK) | (refine Qj rfl ?_; simp only [↓reduceIte]))
        simp only [QN, Qp, Qu, upd, ↓reduceIte, QlJ, QlN]
        exact Qe List.take_length (.keep (.v _)) ⟨by rw [decide_eq_true hm], rfl⟩
      · have hb1 : (u[j] == n) = false := by simpa using hz
        repeat (first | ((first | (with_reducible (first | refine Qa fun K E hK hE => ?_ | refine Qo fun K E hK hE => ?_))); simp -implicitDefEqProofs only [Qd, Qb, Qg, OpW, aop, AS.ev, Qc, Qq, Qk, Q6, ↓reduceIte, Nat.reduceLT, Nat.reduceEqDiff, Qmb, QK, QL, QJ, aBin, aLen, QlD, QlF, QS, QW, Xf, goInt, Ql9, Qmg, Qmf, Qmr, Xg, ti3, ei42, un42, t0, t1, t5, hlt, QhB hlt, hb1]) | (with_reducible (first | refine Qi fun K hK => ?_ | refine Qm ?_ | refine Qv ?_ | refine Qf ?_ | refine Qw ?_)) | ((with_reducible refine hK _ ?_); clear hK) | (refine Qj rfl ?_; simp only [↓reduceIte, QlH]))
        refine XD.mk (m' := u.length - (j + 1)) (by omega) ?_
        rw [hI]
        refine ⟨j + 1, rfl, hlt, he.trans ⟨fun h => h.elim (fun e => absurd e.symm hz) id, .inr⟩, t0, t1, ?_, rfl⟩
        simp only [upd, ↓reduceIte]
        rw [Xe (by omega)]
    · have hjl : j = u.length := by omega
      rw [hjl, List.drop_length] at he
      have hm : ¬ n ∈ u := fun h => by simpa using he.1 h
      repeat (first | (((with_reducible refine Qa fun K E hK hE => ?_)); simp -implicitDefEqProofs only [Qd, Qb, Qg, OpW, aop, AS.ev, Qc, Qr, Qk, ↓reduceIte, Nat.reduceLT, Nat.reduceEqDiff, aBin, aLen, QlF, QW, goInt, Qma, Qmr, Xg, un42, t0, t5, hlt]) | (with_reducible (first | refine Qi fun K hK => ?_ | refine Qn ?_ | refine Q2 ?_ | refine Qf ?_ | refine QU ?_ | refine QV ?_)) | ((with_reducible refine hK _ ?_); clear hK) | (clear hK; (with_reducible refine hK _ ?_); clear hK) | (refine Qj rfl ?_; simp only [↓reduceIte, QlH]))
      simp only [QN, Qp, Qu, upd, ↓reduceIte, QlJ, QlN]
      exact Qe List.take_length (.keep (.v _)) ⟨by rw [decide_eq_false hm], rfl⟩
  · rw [hI]
    exact ⟨0, by omega, Nat.zero_le _, by simp, rfl, rfl, rfl, rfl⟩
theorem Qgh (t : T) : ndsL t.uses ≤ ndsL t.args := by
  unfold T.uses
  split
  · exact Nat.le_refl _
  · simp [ndsL]
structure TokOk (H : Nat → AH) (m k e s : Nat) : Prop where
  len : ∀ n, (H n).length = m
  lt : k < m
  get : ∀ n, (H n)[k]? = some (.grow e s n)
  set : ∀ n n', (H n).set k (.grow e s n') = H n'
theorem TokOk.old {H : Nat → AH} {m k e s : Nat} (V : TokOk H m k e s) : ∀ n n' (i : Nat) b, (H n')[i]? = some b → (H n)[i]? = some b ∨ b.Below m := by
  intro n n' i b hb
  rw [← V.set n n'] at hb
  by_cases hi : k = i
  · subst hi
    rw [List.getElem?_set_self (by rw [V.len]; exact V.lt)] at hb
    cases hb
    exact .inr trivial
  · rw [List.getElem?_set_ne hi] at hb
    exact .inl hb
theorem Qcz {σ : Type} {H : σ → AH} {m : Nat} (hm : ∀ s, (H s).length = m) (hH : ∀ s s' (i : Nat) b, (H s')[i]? = some b → (H s)[i]? = some b ∨ b.Below m) {s s2 : σ} {L own : AH} {r r' : AV} {Q : AV → AH → Prop}
    (hf : Frz (H s2 ++ (L ++ own)) (m + L.length) r r') (hq : Q r' (H s2 ++ L)) : Leaves (H s ++ L) (H s2 ++ (L ++ own)) r Q := by
  have ht : (H s2 ++ (L ++ own)).take (m + L.length) = H s2 ++ L := by
    rw [← List.append_assoc, ← hm s2, ← List.length_append, List.take_left]
  refine .inl ⟨m + L.length, r', by rw [List.length_append, hm]; exact Nat.le_refl _, by simp [hm], .inr fun i b hb => ?_, hf, by rw [ht]; exact hq⟩
  rw [ht] at hb
  rcases Nat.lt_or_ge i m with hi | hi
  · rw [List.getElem?_append_left (by rw [hm]; exact hi)] at hb
    rcases hH s s2 i b hb with h | h
    · exact .inl (by rw [List.getElem?_append_left (by rw [hm]; exact hi)]; exact h)
    · exact .inr (h.mono (by omega))
  · rw [List.getElem?_append_right (by rw [hm]; exact hi), hm] at hb
    exact .inl (by rw [List.getElem?_append_right (by rw [hm]; exact hi), hm]; exact hb)
theorem T.Qlr (t : T) : t.vars = if t.kind = 1 then [t.int] else X9 t.uses := by
  cases t with | mk k i n l =>
  show T.vars (.mk k i n l) = if k = 1 then [i] else X9 (if k = 2 then l else [])
  simp only [T.vars]
  by_cases h1 : k = 1
  · rw [if_pos h1, if_pos h1]
  · rw [if_neg h1, if_neg h1]
    by_cases h2 : k = 2
    · rw [if_pos h2, if_pos h2]
    · rw [if_neg h2, if_neg h2]; rfl
theorem QaH {H : Nat → AH} {m k : Nat} (V : TokOk H m k 3 1) : ∀ n, n ≤ 1000000 → ∀ (t : T) (u : List Int) (L : AH), t.nds ≤ n → u.length + t.nds ≤ 1000000 →
    Yd Tryz.prog 62 [.sl 1 (ints u) (some k), t.av] (H u.length ++ L) fun o h' => o = .ret (.sl 1 (ints (ded u t.vars)) (some k)) ∧ h' = H (ded u t.vars).length ++ L
  | 0, _, t, _, _, hn, _ => by have := T.Qlc t; omega
  | n + 1, hb, t, u, L, hn, hu => by
    have e := T.Qlr t
    have hnd := T.Qlc t
    have hm := V.len
    have gk : ∀ (n : Nat) (L : AH) (k : Nat), (H n ++ L)[m + k]? = L[k]? := fun u L k => by rw [← hm u]; exact hget _ _ _
    have sk : ∀ (n : Nat) (L : AH) (k : Nat) (b : AB), (H n ++ L).set (m + k) b = H n ++ L.set k b := fun u L k b => by rw [← hm u]; exact hset _ _ _ _
    have gt : ∀ (n : Nat) (L : AH), (H n ++ L)[k]? = some (.grow 3 1 n) := fun n L => by rw [List.getElem?_append_left (by rw [hm]; exact V.lt)]; exact V.get n
    have st : ∀ (n n' : Nat) (L : AH), (H n ++ L).set k (.grow 3 1 n') = H n' ++ L := fun n n' L => by rw [List.set_append_left _ _ (by rw [hm]; exact V.lt), V.set]
    have ca := Qa5 t
    have ch := Qke u (some k) t.int (by omega)
    have hlu := XK t.uses
    have hul := Qgh t
    by_cases h1 : t.kind = 1
    · have b1 : (t.kind == 1) = true := by simpa using h1
      have hus : t.uses = [] := by unfold T.uses; rw [if_neg (by omega)]
      rw [if_pos h1] at e
      by_cases hmem : t.int ∈ u
      · have hed : ded u t.vars = ded u (X9 (t.uses.drop 0)) := by rw [e, hus]; exact if_pos hmem
        have hlen' : u.length + ndsL (t.uses.drop 0) ≤ 1000000 := by rw [List.drop_zero]; omega
        rw [decide_eq_true hmem] at ch
        refine Qh Tryz.func62 rfl Tryz.call62 Tryz.ntmps62 (congrArg Array.toList Tryz.results62) (by simp) ?_
        repeat (first | ((first | (with_reducible (first | refine Qa fun K E hK hE => ?_ | refine Qs ca ?_ | refine Qs ch ?_))); simp -implicitDefEqProofs only [Qd, Qb, Qg, OpW, QR, aop, undef, AS.ev, Qc, Qq, Xq, Qk, QD, QlK, Ql3, AV.Qk5, QlX, QlY, QC, QA, QI, QlZ, Ql0, ↓reduceIte, QlQ, QlR, Nat.reduceAdd, Nat.reduceLT, Nat.reduceEqDiff, QlP, Ql2, Qmb, Ql, QK, QL, aBin, QO, hlen, happ, QlD, QlE, QlF, QlI, QlG, QlS, QlW, QS, Xb, QlL, T.Qk4, T.Qk6, ti3, ti69, Xu, XS, b1, hm, gk]) | (with_reducible (first | refine Qi fun K hK => ?_ | refine Qm ?_ | refine Qv ?_ | refine Qf ?_)) | ((with_reducible refine hK _ ?_); clear hK) | (refine Qj rfl ?_; simp only [↓reduceIte, QlH]))
        obtain ⟨I, hI⟩ : ∃ I : Nat → AS → Prop, I = fun m' s => ∃ (j : Nat) (v : List Int) (M : AH), m' = t.uses.length - j ∧ j ≤ t.uses.length ∧ ded u t.vars = ded v (X9 (t.uses.drop j)) ∧ v.length + ndsL (t.uses.drop j) ≤ 1000000 ∧ s.tm 0 = .sl 1 (ints v) (some k) ∧ s.tm 5 = .sl 4 (avs t.uses) none ∧ s.tm 6 = .i j ∧ s.h = H v.length ++ (L ++ M) := ⟨_, rfl⟩; refine Q9 I ?_ (m := t.uses.length) ?_
        · intro m' s hs; rw [hI] at hs; obtain ⟨tm, hp⟩ := s; dsimp only at hs; obtain ⟨j, v, M, rfl, hj, hw, hv, t0, t5, t6, rfl⟩ := hs
          by_cases hlt : j < t.uses.length
          · rw [List.drop_eq_getElem_cons hlt] at hw hv
            simp only [X9, Zv] at hw
            simp only [ndsL] at hv
            have hcc := fun L => QaH V n (by omega) t.uses[j] v L (Nat.le_trans (ZK hlt) (by omega)) (by omega)
            have hdl := Zj v (t.uses[j]).vars
            have hvl := T.Qk9 t.uses[j]
            repeat (first | ((first | (with_reducible (first | refine Qa fun K E hK hE => ?_ | refine Qo fun K E hK hE => ?_ | refine FunW.ret (FunW.call (hcc _)) ?_))); simp -implicitDefEqProofs only [Qd, Qb, Qg, OpW, QR, aop, AS.ev, Qc, Qq, Qk, ↓reduceIte, QlQ, QlR, Nat.reduceAdd, Nat.reduceLT, Nat.reduceEqDiff, QlP, Qmb, QK, QL, QJ, aBin, aLen, QlF, QlS, QlW, QW, Xf, goInt, Ql9, Qmg, Qmf, Qmr, T.Qk4, T.Qk6, QE, ei44, un44, ti69, t0, t5, t6, hlt, Y0 hlt]) | (with_reducible (first | refine Qi fun K hK => ?_ | refine Qm ?_ | refine Qv ?_ | refine Qf ?_ | refine Qw ?_)) | ((with_reducible refine hK _ ?_); clear hK) | (refine Qj rfl ?_; simp only [↓reduceIte]))
            refine XD.mk (m' := t.uses.length - (j + 1)) (by omega) ?_
            rw [hI]
            refine ⟨j + 1, _, _, rfl, hlt, hw, by omega, rfl, t5, ?_, rfl⟩
            simp only [upd, ↓reduceIte]
            rw [Xe (by omega)]
          · have hjl : j = t.uses.length := by omega
            rw [hjl, List.drop_length] at hw
            simp only [X9, ded] at hw
            repeat (first | (((with_reducible refine Qa fun K E hK hE => ?_)); simp -implicitDefEqProofs only [Qd, Qb, Qg, OpW, aop, AS.ev, Qc, Qk, ↓reduceIte, Nat.reduceLT, Nat.reduceEqDiff, aBin, aLen, QlF, QW, goInt, Qma, Qmr, QE, un44, t0, t5, t6, hlt]) | (with_reducible (first | refine Qi fun K hK => ?_ | refine Qn ?_ | refine Q2 ?_ | refine Qf ?_ | refine QU ?_ | refine QV ?_)) | ((with_reducible refine hK _ ?_); clear hK) | (clear hK; (with_reducible refine hK _ ?_); clear hK) | (refine Qj rfl ?_; simp only [↓reduceIte, QlH]))
            simp only [QN, Qp, Qu, upd, ↓reduceIte, QlJ, QlN]
            exact Qcz V.len V.old (.keep (.sl 1 _ _ (Qa0 _ _) (fun b hb => by cases hb; have := V.lt; omega))) ⟨by rw [hw], by rw [hw]⟩
        · rw [hI]
          exact ⟨0, _, _, by omega, Nat.zero_le _, hed, hlen', rfl, rfl, rfl, rfl⟩
      · have hed : ded u t.vars = ded (u ++ [t.int]) (X9 (t.uses.drop 0)) := by rw [e, hus]; exact if_neg hmem
        have hlen' : (u ++ [t.int]).length + ndsL (t.uses.drop 0) ≤ 1000000 := by rw [hus, List.length_append]; simp only [List.drop_nil, ndsL, List.length_singleton]; omega
        rw [decide_eq_false hmem] at ch
        have hb1 : u.length + 1 ≤ maxLen := by simp only [maxLen]; omega
        have hb2 : (u.length + 1) * 8 ≤ 140737488355328 := by omega
        refine Qh Tryz.func62 rfl Tryz.call62 Tryz.ntmps62 (congrArg Array.toList Tryz.results62) (by simp) ?_
        repeat (first | ((first | (with_reducible (first | refine Qa fun K E hK hE => ?_ | refine Qo fun K E hK hE => ?_ | refine Qs ca ?_ | refine Qs ch ?_))); simp -implicitDefEqProofs only [Qd, Qb, Qg, OpW, QR, aop, undef, AS.ev, Qc, Qq, Xq, Qk, QD, QlK, Ql3, AV.Qk5, Q6, QlX, QlY, QC, QA, QI, QlZ, Ql1, ↓reduceIte, QlQ, QlR, Nat.reduceAdd, Nat.reduceLT, Nat.reduceLeDiff, Nat.reduceEqDiff, Nat.reduceMul, QlP, Ql2, Qmb, Ql, QK, QL, aBin, Q7, YV, Ze, QO, hlen, happ, QlD, QlE, QlF, QlI, QlG, QlS, QlW, QS, Xb, QlL, rng1, Xa, Nat.reducePow, T.Qk4, T.Qk6, Xg, ti3, zi3, ei42, ai42, ti69, Xu, XS, b1, hm, gk, gt, st, hb1, hb2]) | (with_reducible (first | refine Qi fun K hK => ?_ | refine Qm ?_ | refine Qf ?_)) | ((with_reducible refine hK _ ?_); clear hK) | (refine Qj rfl ?_; simp only [↓reduceIte]))
        obtain ⟨I, hI⟩ : ∃ I : Nat → AS → Prop, I = fun m' s => ∃ (j : Nat) (v : List Int) (M : AH), m' = t.uses.length - j ∧ j ≤ t.uses.length ∧ ded u t.vars = ded v (X9 (t.uses.drop j)) ∧ v.length + ndsL (t.uses.drop j) ≤ 1000000 ∧ s.tm 0 = .sl 1 (ints v) (some k) ∧ s.tm 5 = .sl 4 (avs t.uses) none ∧ s.tm 6 = .i j ∧ s.h = H v.length ++ (L ++ M) := ⟨_, rfl⟩; refine Q9 I ?_ (m := t.uses.length) ?_
        · intro m' s hs; rw [hI] at hs; obtain ⟨tm, hp⟩ := s; dsimp only at hs; obtain ⟨j, v, M, rfl, hj, hw, hv, t0, t5, t6, rfl⟩ := hs
          by_cases hlt : j < t.uses.length
          · rw [List.drop_eq_getElem_cons hlt] at hw hv
            simp only [X9, Zv] at hw
            simp only [ndsL] at hv
            have hcc := fun L => QaH V n (by omega) t.uses[j] v L (Nat.le_trans (ZK hlt) (by omega)) (by omega)
            have hdl := Zj v (t.uses[j]).vars
            have hvl := T.Qk9 t.uses[j]
            repeat (first | ((first | (with_reducible (first | refine Qa fun K E hK hE => ?_ | refine Qo fun K E hK hE => ?_ | refine FunW.ret (FunW.call (hcc _)) ?_))); simp -implicitDefEqProofs only [Qd, Qb, Qg, OpW, QR, aop, AS.ev, Qc, Qq, Qk, ↓reduceIte, QlQ, QlR, Nat.reduceAdd, Nat.reduceLT, Nat.reduceEqDiff, QlP, Qmb, QK, QL, QJ, aBin, aLen, QlF, QlS, QlW, QW, Xf, goInt, Ql9, Qmg, Qmf, Qmr, T.Qk4, T.Qk6, QE, ei44, un44, ti69, t0, t5, t6, hlt, Y0 hlt]) | (with_reducible (first | refine Qi fun K hK => ?_ | refine Qm ?_ | refine Qv ?_ | refine Qf ?_ | refine Qw ?_)) | ((with_reducible refine hK _ ?_); clear hK) | (refine Qj rfl ?_; simp only [↓reduceIte]))
            refine XD.mk (m' := t.uses.length - (j + 1)) (by omega) ?_
            rw [hI]
            refine ⟨j + 1, _, _, rfl, hlt, hw, by omega, rfl, t5, ?_, rfl⟩
            simp only [upd, ↓reduceIte]
            rw [Xe (by omega)]
          · have hjl : j = t.uses.length := by omega
            rw [hjl, List.drop_length] at hw
            simp only [X9, ded] at hw
            repeat (first | (((with_reducible refine Qa fun K E hK hE => ?_)); simp -implicitDefEqProofs only [Qd, Qb, Qg, OpW, aop, AS.ev, Qc, Qk, ↓reduceIte, Nat.reduceLT, Nat.reduceEqDiff, aBin, aLen, QlF, QW, goInt, Qma, Qmr, QE, un44, t0, t5, t6, hlt]) | (with_reducible (first | refine Qi fun K hK => ?_ | refine Qn ?_ | refine Q2 ?_ | refine Qf ?_ | refine QU ?_ | refine QV ?_)) | ((with_reducible refine hK _ ?_); clear hK) | (clear hK; (with_reducible refine hK _ ?_); clear hK) | (refine Qj rfl ?_; simp only [↓reduceIte, QlH]))
            simp only [QN, Qp, Qu, upd, ↓reduceIte, QlJ, QlN]
            exact Qcz V.len V.old (.keep (.sl 1 _ _ (Qa0 _ _) (fun b hb => by cases hb; have := V.lt; omega))) ⟨by rw [hw], by rw [hw]⟩
        · rw [hI]
          exact ⟨0, _, _, by omega, Nat.zero_le _, hed, hlen', by rw [QgI, QjN]; rfl, rfl, rfl, by rw [List.length_append]; rfl⟩
    · have b1 : (t.kind == 1) = false := by simpa using h1
      rw [if_neg h1] at e
      have hed : ded u t.vars = ded u (X9 (t.uses.drop 0)) := by rw [e, List.drop_zero]
      have hlen' : u.length + ndsL (t.uses.drop 0) ≤ 1000000 := by rw [List.drop_zero]; omega
      refine Qh Tryz.func62 rfl Tryz.call62 Tryz.ntmps62 (congrArg Array.toList Tryz.results62) (by simp) ?_
      repeat (first | ((first | (with_reducible (first | refine Qa fun K E hK hE => ?_ | refine Qs ca ?_))); simp -implicitDefEqProofs only [Qd, Qb, Qg, OpW, QR, aop, undef, AS.ev, Qc, Qq, Qr, Xq, Qk, QD, QlK, Ql3, AV.Qk5, QlX, QlY, QC, QA, QI, QlZ, ↓reduceIte, QlQ, QlR, Nat.reduceAdd, Nat.reduceLT, Nat.reduceEqDiff, QlP, Ql2, Qmb, Ql, QK, QL, aBin, QO, hlen, happ, QlD, QlE, QlF, QlI, QlG, QlS, QlW, QS, QlH, beq_true, T.Qk4, T.Qk6, ti3, ti69, Xu, b1, hm, gk]) | (with_reducible (first | refine Qi fun K hK => ?_ | refine Qm ?_ | refine Qv ?_ | refine Qf ?_)) | ((with_reducible refine hK _ ?_); clear hK) | (refine Qj rfl ?_; simp only [↓reduceIte, QlH]))
      obtain ⟨I, hI⟩ : ∃ I : Nat → AS → Prop, I = fun m' s => ∃ (j : Nat) (v : List Int) (M : AH), m' = t.uses.length - j ∧ j ≤ t.uses.length ∧ ded u t.vars = ded v (X9 (t.uses.drop j)) ∧ v.length + ndsL (t.uses.drop j) ≤ 1000000 ∧ s.tm 0 = .sl 1 (ints v) (some k) ∧ s.tm 5 = .sl 4 (avs t.uses) none ∧ s.tm 6 = .i j ∧ s.h = H v.length ++ (L ++ M) := ⟨_, rfl⟩; refine Q9 I ?_ (m := t.uses.length) ?_
      · intro m' s hs; rw [hI] at hs; obtain ⟨tm, hp⟩ := s; dsimp only at hs; obtain ⟨j, v, M, rfl, hj, hw, hv, t0, t5, t6, rfl⟩ := hs
        by_cases hlt : j < t.uses.length
        · rw [List.drop_eq_getElem_cons hlt] at hw hv
          simp only [X9, Zv] at hw
          simp only [ndsL] at hv
          have hcc := fun L => QaH V n (by omega) t.uses[j] v L (Nat.le_trans (ZK hlt) (by omega)) (by omega)
          have hdl := Zj v (t.uses[j]).vars
          have hvl := T.Qk9 t.uses[j]
          repeat (first | ((first | (with_reducible (first | refine Qa fun K E hK hE => ?_ | refine Qo fun K E hK hE => ?_ | refine FunW.ret (FunW.call (hcc _)) ?_))); simp -implicitDefEqProofs only [Qd, Qb, Qg, OpW, QR, aop, AS.ev, Qc, Qq, Qk, ↓reduceIte, QlQ, QlR, Nat.reduceAdd, Nat.reduceLT, Nat.reduceEqDiff, QlP, Qmb, QK, QL, QJ, aBin, aLen, QlF, QlS, QlW, QW, Xf, goInt, Ql9, Qmg, Qmf, Qmr, T.Qk4, T.Qk6, QE, ei44, un44, ti69, t0, t5, t6, hlt, Y0 hlt]) | (with_reducible (first | refine Qi fun K hK => ?_ | refine Qm ?_ | refine Qv ?_ | refine Qf ?_ | refine Qw ?_)) | ((with_reducible refine hK _ ?_); clear hK) | (refine Qj rfl ?_; simp only [↓reduceIte]))
          refine XD.mk (m' := t.uses.length - (j + 1)) (by omega) ?_
          rw [hI]
          refine ⟨j + 1, _, _, rfl, hlt, hw, by omega, rfl, t5, ?_, rfl⟩
          simp only [upd, ↓reduceIte]
          rw [Xe (by omega)]
        · have hjl : j = t.uses.length := by omega
          rw [hjl, List.drop_length] at hw
          simp only [X9, ded] at hw
          repeat (first | (((with_reducible refine Qa fun K E hK hE => ?_)); simp -implicitDefEqProofs only [Qd, Qb, Qg, OpW, aop, AS.ev, Qc, Qk, ↓reduceIte, Nat.reduceLT, Nat.reduceEqDiff, aBin, aLen, QlF, QW, goInt, Qma, Qmr, QE, un44, t0, t5, t6, hlt]) | (with_reducible (first | refine Qi fun K hK => ?_ | refine Qn ?_ | refine Q2 ?_ | refine Qf ?_ | refine QU ?_ | refine QV ?_)) | ((with_reducible refine hK _ ?_); clear hK) | (clear hK; (with_reducible refine hK _ ?_); clear hK) | (refine Qj rfl ?_; simp only [↓reduceIte, QlH]))
          simp only [QN, Qp, Qu, upd, ↓reduceIte, QlJ, QlN]
          exact Qcz V.len V.old (.keep (.sl 1 _ _ (Qa0 _ _) (fun b hb => by cases hb; have := V.lt; omega))) ⟨by rw [hw], by rw [hw]⟩
      · rw [hI]
        exact ⟨0, _, _, by omega, Nat.zero_le _, hed, hlen', rfl, rfl, rfl, rfl⟩
theorem Qi4 (h : AH) (e s : Nat) : TokOk (fun n => h ++ [.grow e s n]) (h.length + 1) h.length e s where
  len := fun n => by simp
  lt := by omega
  get := fun n => by rw [QO]; rfl
  set := fun n n' => by rw [Yg]; rfl
theorem Qd7 (l : List T) (hn : ndsL l ≤ 1000000) : Pure Tryz.prog 20 [.sl 4 (avs l) none] (.sl 1 (ints (ded [] (X9 l))) none) := by
  intro h
  have hll := XK l
  refine Qh Tryz.func20 rfl Tryz.call20 Tryz.ntmps20 (congrArg Array.toList Tryz.results20) (by simp) ?_
  repeat (first | (((with_reducible refine Qa fun K E hK hE => ?_)); simp -implicitDefEqProofs only [Qd, Qb, Qg, OpW, aop, AS.ev, Qc, Qq, Xq, Nat.reduceLT]) | (with_reducible (first | refine Qi fun K hK => ?_ | refine Qm ?_)) | ((with_reducible refine hK _ ?_); clear hK))
  refine Y2 3 3 1 rfl ?_
  obtain ⟨I, hI⟩ : ∃ I : Nat → AS → Prop, I = fun m' s => ∃ (j : Nat) (v : List Int) (M : AH), m' = l.length - j ∧ j ≤ l.length ∧ ded [] (X9 l) = ded v (X9 (l.drop j)) ∧ v.length + ndsL (l.drop j) ≤ 1000000 ∧ s.tm 0 = .sl 4 (avs l) none ∧ s.tm 3 = .sl 1 (ints v) (some h.length) ∧ s.tm 4 = .i j ∧ s.h = h ++ ([.grow 3 1 v.length] ++ M) := ⟨_, rfl⟩; refine Q9 I ?_ (m := l.length) ?_
  · intro m' s hs; rw [hI] at hs; obtain ⟨tm, hp⟩ := s; dsimp only at hs; obtain ⟨j, v, M, rfl, hj, hw, hv, t0, t3, t4, rfl⟩ := hs
    by_cases hlt : j < l.length
    · rw [List.drop_eq_getElem_cons hlt] at hw hv
      simp only [X9, Zv] at hw
      simp only [ndsL] at hv
      have hcc := fun L => QaH (Qi4 h 3 1) 1000000 (Nat.le_refl _) l[j] v L (Nat.le_trans (ZK hlt) (by omega)) (by omega)
      simp only [List.append_assoc, Ql5, Ql4] at hcc
      have hdl := Zj v (l[j]).vars
      have hvl := T.Qk9 l[j]
      repeat (first | ((first | (with_reducible (first | refine Qa fun K E hK hE => ?_ | refine Qo fun K E hK hE => ?_ | refine FunW.ret (FunW.call (hcc _)) ?_))); simp -implicitDefEqProofs only [Qd, Qb, Qg, OpW, QR, aop, AS.ev, Qc, Qq, Qk, ↓reduceIte, QlQ, QlR, Nat.reduceAdd, Nat.reduceLT, Nat.reduceEqDiff, QlP, Qmb, QK, QL, QJ, aBin, aLen, QlF, QlS, QlW, Ql5, Ql4, QW, Xf, goInt, Ql9, Qmg, Qmf, Qmr, T.Qk4, T.Qk6, QE, ei44, un44, ti69, t0, t3, t4, hlt, Y0 hlt]) | (with_reducible (first | refine Qi fun K hK => ?_ | refine Qm ?_ | refine Qv ?_ | refine Qf ?_ | refine Qw ?_)) | ((with_reducible refine hK _ ?_); clear hK) | (refine Qj rfl ?_; simp only [↓reduceIte]))
      refine XD.mk (m' := l.length - (j + 1)) (by omega) ?_
      rw [hI]
      refine ⟨j + 1, _, _, rfl, hlt, hw, by omega, t0, rfl, ?_, rfl⟩
      simp only [upd, ↓reduceIte]
      rw [Xe (by omega)]
    · have hjl : j = l.length := by omega
      rw [hjl, List.drop_length] at hw
      simp only [X9, ded] at hw
      repeat (first | (((with_reducible refine Qa fun K E hK hE => ?_)); simp -implicitDefEqProofs only [Qd, Qb, Qg, OpW, aop, AS.ev, Qc, Qk, ↓reduceIte, Nat.reduceLT, Nat.reduceEqDiff, aBin, aLen, QlF, Ql5, Ql4, QW, goInt, Qma, Qmr, QE, un44, t0, t3, t4, hlt]) | (with_reducible (first | refine Qi fun K hK => ?_ | refine Qn ?_ | refine Q2 ?_ | refine Qf ?_ | refine QU ?_ | refine QV ?_)) | ((with_reducible refine hK _ ?_); clear hK) | (clear hK; (with_reducible refine hK _ ?_); clear hK) | (refine Qj rfl ?_; simp only [↓reduceIte, QlH]))
      simp only [QN, Qp, Qu, upd, ↓reduceIte, QlJ, QlN]
      exact Qe (htake _ _) (.tok (Qa0 _ _)) ⟨by rw [hw], rfl⟩
  · rw [hI]
    exact ⟨0, [], [], by omega, Nat.zero_le _, rfl, by simpa using hn, rfl, rfl, rfl, rfl⟩
end Go.Proofs.YtenheconhibonaaGreatDoor.Ab
set_option maxRecDepth 4000
namespace Go.Proofs.YtenheconhibonaaGreatDoor.Ab
open Go.Proofs
def YB (l : List G) : List T := l.flatMap G.args
def Zq (r : Rl) : List T := YB r.keep ++ (YB r.remove ++ (YB r.guard ++ YB r.body))
theorem Qik (r : Rl) (h1 : r.keep.length ≤ 1000000) (h2 : r.remove.length ≤ 1000000) (h3 : r.guard.length ≤ 1000000) (h4 : r.body.length ≤ 1000000) (hn : (Zq r).length ≤ 1000000) :
    Pure Tryz.prog 21 [r.av] (.sl 4 (avs (Zq r)) none) := by
  intro h
  refine Qh Tryz.func21 rfl Tryz.call21 Tryz.ntmps21 (congrArg Array.toList Tryz.results21) (by simp) ?_
  iterate 4 (try (first | (((with_reducible refine Qa fun K E hK hE => ?_)); simp -implicitDefEqProofs only [Qd, Qb, Qg, OpW, aop, undef, AS.ev, Qc, Xq, QD, QlK, AV.Qk5, QlX, QlY, QC, QA, QI, QlZ, ↓reduceIte, QlQ, QlR, Nat.reduceAdd, Nat.reduceLT, QlP, Rl.cells]) | ((with_reducible refine hK _ ?_); clear hK)))
  refine Y2 3 69 4 rfl ?_
  repeat (first | (((with_reducible refine Qa fun K E hK hE => ?_)); simp -implicitDefEqProofs only [Qd, Qb, Qg, OpW, aop, AS.ev, Qc, Qq, QlQ, QlR, Nat.reduceLT, QlP, hlen, happ, Ql5, Ql4]) | (with_reducible (first | refine Qi fun K hK => ?_ | refine Qm ?_)) | ((with_reducible refine hK _ ?_); clear hK))
  obtain ⟨I, hI⟩ : ∃ I : Nat → AS → Prop, I = fun m' s => ∃ (k : Nat) (out : List T), m' = r.keep.length - k ∧ k ≤ r.keep.length ∧ out ++ (YB (r.keep.drop k) ++ (YB r.remove ++ (YB r.guard ++ YB r.body))) = Zq r ∧ s.tm 1 = .ptr h.length 0 0 ∧ s.tm 3 = .sl 4 (avs out) (some (h.length + 1)) ∧ s.tm 4 = .i k ∧ s.h = h ++ [.cells 25 6 [r.av], .grow 69 4 out.length] := ⟨_, rfl⟩; refine Q9 I ?_ (m := r.keep.length) ?_
  rotate_left
  · rw [hI]
    exact ⟨0, [], rfl, by omega, rfl, rfl, rfl, rfl, rfl⟩
  intro m' s hs; rw [hI] at hs; obtain ⟨tm, hp⟩ := s; dsimp only at hs; obtain ⟨k, out, rfl, hk, he, t1, t3, tk, rfl⟩ := hs
  by_cases hlt : k < r.keep.length
  · have hg := YN G.atom hlt
    have z1 : (k : Int) < r.keep.length := by omega
    have hd1 : YB (r.keep.drop k) = r.keep[k].args ++ YB (r.keep.drop (k + 1)) := by rw [List.drop_eq_getElem_cons hlt]; rfl
    rw [hd1] at he
    have hlen2 := congrArg List.length he
    simp only [Qmu] at hlen2
    have hb1 : out.length + r.keep[k].args.length ≤ maxLen := by simp only [maxLen]; omega
    have hb2 : (out.length + r.keep[k].args.length) * 56 ≤ 140737488355328 := by omega
    repeat (first | ((first | (with_reducible (first | refine Qa fun K E hK hE => ?_ | refine Qo fun K E hK hE => ?_))); simp -implicitDefEqProofs only [Qd, Qb, Qg, OpW, aop, AS.ev, Qc, Qq, Qk, ↓reduceIte, Nat.reduceLT, Nat.reduceEqDiff, QlP, Qmb, Ql, QK, QL, QJ, aBin, aLen, YV, Ze, QO, hget, hset, QlD, QlE, Ql7, Ql8, QlF, QW, Xf, goInt, Ql9, Qmg, Qmf, QE, ti22, ei22, un22, X7, ti44, ai44, YM, t1, t3, tk, z1, hg, hb1, hb2, QE, QG, Rl.cells, XB]) | (with_reducible (first | refine Qi fun K hK => ?_ | refine Qm ?_ | refine Qv ?_ | refine Qf ?_ | refine Qw ?_)) | ((with_reducible refine hK _ ?_); clear hK) | (refine Qj rfl ?_; simp only [↓reduceIte]))
    refine XD.mk (m' := r.keep.length - (k + 1)) (by omega) ?_
    rw [hI]
    refine ⟨k + 1, out ++ r.keep[k].args, rfl, hlt, by simp only [List.append_assoc] at he ⊢; exact he, t1, ?_, ?_, by rw [List.length_append]⟩
    · rw [ZF]; rfl
    · simp only [upd, ↓reduceIte]
      rw [Xe (by omega)]
  have hkn : k = r.keep.length := by omega
  subst hkn
  have z : ¬ ((r.keep.length : Nat) : Int) < r.keep.length := by omega
  rw [List.drop_length, show YB [] = [] from rfl, List.nil_append] at he
  clear hlt hk
  -- next
  repeat (first | (((with_reducible refine Qa fun K E hK hE => ?_)); simp -implicitDefEqProofs only [Qd, Qb, Qg, OpW, aop, AS.ev, Qc, Qq, Qk, ↓reduceIte, Nat.reduceLT, Nat.reduceEqDiff, QlP, Ql, QK, QL, aBin, aLen, QO, QlD, QlE, QlF, QW, goInt, Qma, ti22, un22, X7, t1, tk, z, Rl.cells, QG]) | (with_reducible (first | refine Qi fun K hK => ?_ | refine Qm ?_ | refine Q2 ?_ | refine Qf ?_ | refine QU ?_ | refine QV ?_)) | ((with_reducible refine hK _ ?_); clear hK) | (clear hK; (with_reducible refine hK _ ?_); clear hK) | (refine Qj rfl ?_; simp only [↓reduceIte, QlH]))
  obtain ⟨I, hI⟩ : ∃ I : Nat → AS → Prop, I = fun m' s => ∃ (k : Nat) (out : List T), m' = r.remove.length - k ∧ k ≤ r.remove.length ∧ out ++ (YB (r.remove.drop k) ++ (YB r.guard ++ YB r.body)) = Zq r ∧ s.tm 1 = .ptr h.length 0 0 ∧ s.tm 3 = .sl 4 (avs out) (some (h.length + 1)) ∧ s.tm 5 = .i k ∧ s.h = h ++ [.cells 25 6 [r.av], .grow 69 4 out.length] := ⟨_, rfl⟩; refine Q9 I ?_ (m := r.remove.length) ?_
  rotate_left
  · rw [hI]
    exact ⟨0, out, rfl, by omega, by first | exact he | (rw [List.append_nil]; exact he), t1, t3, rfl, rfl⟩
  intro m' s hs; rw [hI] at hs; obtain ⟨tm, hp⟩ := s; dsimp only at hs; obtain ⟨k, out, rfl, hk, he, t1, t3, tk, rfl⟩ := hs
  by_cases hlt : k < r.remove.length
  · have hg := YN G.atom hlt
    have z1 : (k : Int) < r.remove.length := by omega
    have hd1 : YB (r.remove.drop k) = r.remove[k].args ++ YB (r.remove.drop (k + 1)) := by rw [List.drop_eq_getElem_cons hlt]; rfl
    rw [hd1] at he
    have hlen2 := congrArg List.length he
    simp only [Qmu] at hlen2
    have hb1 : out.length + r.remove[k].args.length ≤ maxLen := by simp only [maxLen]; omega
    have hb2 : (out.length + r.remove[k].args.length) * 56 ≤ 140737488355328 := by omega
    repeat (first | ((first | (with_reducible (first | refine Qa fun K E hK hE => ?_ | refine Qo fun K E hK hE => ?_))); simp -implicitDefEqProofs only [Qd, Qb, Qg, OpW, aop, AS.ev, Qc, Qq, Qk, ↓reduceIte, Nat.reduceLT, Nat.reduceEqDiff, QlP, Qmb, Ql, QK, QL, QJ, aBin, aLen, YV, Ze, QO, hget, hset, QlD, QlE, Ql7, Ql8, QlF, QW, Xf, goInt, Ql9, Qmg, Qmf, QE, ti22, ei22, un22, X6, ti44, ai44, YM, t1, t3, tk, z1, hg, hb1, hb2, QE, QG, Rl.cells, XB]) | (with_reducible (first | refine Qi fun K hK => ?_ | refine Qm ?_ | refine Qv ?_ | refine Qf ?_ | refine Qw ?_)) | ((with_reducible refine hK _ ?_); clear hK) | (refine Qj rfl ?_; simp only [↓reduceIte]))
    refine XD.mk (m' := r.remove.length - (k + 1)) (by omega) ?_
    rw [hI]
    refine ⟨k + 1, out ++ r.remove[k].args, rfl, hlt, by simp only [List.append_assoc] at he ⊢; exact he, t1, ?_, ?_, by rw [List.length_append]⟩
    · rw [ZF]; rfl
    · simp only [upd, ↓reduceIte]
      rw [Xe (by omega)]
  have hkn : k = r.remove.length := by omega
  subst hkn
  have z : ¬ ((r.remove.length : Nat) : Int) < r.remove.length := by omega
  rw [List.drop_length, show YB [] = [] from rfl, List.nil_append] at he
  clear hlt hk
  -- next
  repeat (first | (((with_reducible refine Qa fun K E hK hE => ?_)); simp -implicitDefEqProofs only [Qd, Qb, Qg, OpW, aop, AS.ev, Qc, Qq, Qk, ↓reduceIte, Nat.reduceLT, Nat.reduceEqDiff, QlP, Ql, QK, QL, aBin, aLen, QO, QlD, QlE, QlF, QW, goInt, Qma, ti22, un22, X6, t1, tk, z, Rl.cells, QG]) | (with_reducible (first | refine Qi fun K hK => ?_ | refine Qm ?_ | refine Q2 ?_ | refine Qf ?_ | refine QU ?_ | refine QV ?_)) | ((with_reducible refine hK _ ?_); clear hK) | (clear hK; (with_reducible refine hK _ ?_); clear hK) | (refine Qj rfl ?_; simp only [↓reduceIte, QlH]))
  obtain ⟨I, hI⟩ : ∃ I : Nat → AS → Prop, I = fun m' s => ∃ (k : Nat) (out : List T), m' = r.guard.length - k ∧ k ≤ r.guard.length ∧ out ++ (YB (r.guard.drop k) ++ (YB r.body)) = Zq r ∧ s.tm 1 = .ptr h.length 0 0 ∧ s.tm 3 = .sl 4 (avs out) (some (h.length + 1)) ∧ s.tm 6 = .i k ∧ s.h = h ++ [.cells 25 6 [r.av], .grow 69 4 out.length] := ⟨_, rfl⟩; refine Q9 I ?_ (m := r.guard.length) ?_
  rotate_left
  · rw [hI]
    exact ⟨0, out, rfl, by omega, by first | exact he | (rw [List.append_nil]; exact he), t1, t3, rfl, rfl⟩
  intro m' s hs; rw [hI] at hs; obtain ⟨tm, hp⟩ := s; dsimp only at hs; obtain ⟨k, out, rfl, hk, he, t1, t3, tk, rfl⟩ := hs
  by_cases hlt : k < r.guard.length
  · have hg := YN G.goal hlt
    have z1 : (k : Int) < r.guard.length := by omega
    have hd1 : YB (r.guard.drop k) = r.guard[k].args ++ YB (r.guard.drop (k + 1)) := by rw [List.drop_eq_getElem_cons hlt]; rfl
    rw [hd1] at he
    have hlen2 := congrArg List.length he
    simp only [Qmu] at hlen2
    have hb1 : out.length + r.guard[k].args.length ≤ maxLen := by simp only [maxLen]; omega
    have hb2 : (out.length + r.guard[k].args.length) * 56 ≤ 140737488355328 := by omega
    repeat (first | ((first | (with_reducible (first | refine Qa fun K E hK hE => ?_ | refine Qo fun K E hK hE => ?_))); simp -implicitDefEqProofs only [Qd, Qb, Qg, OpW, aop, AS.ev, Qc, Qq, Qk, ↓reduceIte, Nat.reduceLT, Nat.reduceEqDiff, QlP, Qmb, Ql, QK, QL, QJ, aBin, aLen, YV, Ze, QO, hget, hset, QlD, QlE, Ql7, Ql8, QlF, QW, Xf, goInt, Ql9, Qmg, Qmf, QE, ti23, ei23, un23, XR, ti44, ai44, Ya, t1, t3, tk, z1, hg, hb1, hb2, QE, QG, Rl.cells, Q3]) | (with_reducible (first | refine Qi fun K hK => ?_ | refine Qm ?_ | refine Qv ?_ | refine Qf ?_ | refine Qw ?_)) | ((with_reducible refine hK _ ?_); clear hK) | (refine Qj rfl ?_; simp only [↓reduceIte]))
    refine XD.mk (m' := r.guard.length - (k + 1)) (by omega) ?_
    rw [hI]
    refine ⟨k + 1, out ++ r.guard[k].args, rfl, hlt, by simp only [List.append_assoc] at he ⊢; exact he, t1, ?_, ?_, by rw [List.length_append]⟩
    · rw [ZF]; rfl
    · simp only [upd, ↓reduceIte]
      rw [Xe (by omega)]
  have hkn : k = r.guard.length := by omega
  subst hkn
  have z : ¬ ((r.guard.length : Nat) : Int) < r.guard.length := by omega
  rw [List.drop_length, show YB [] = [] from rfl, List.nil_append] at he
  clear hlt hk
  -- next
  repeat (first | (((with_reducible refine Qa fun K E hK hE => ?_)); simp -implicitDefEqProofs only [Qd, Qb, Qg, OpW, aop, AS.ev, Qc, Qq, Qk, ↓reduceIte, Nat.reduceLT, Nat.reduceEqDiff, QlP, Ql, QK, QL, aBin, aLen, QO, QlD, QlE, QlF, QW, goInt, Qma, ti23, un23, XR, t1, tk, z, Rl.cells, QG]) | (with_reducible (first | refine Qi fun K hK => ?_ | refine Qm ?_ | refine Q2 ?_ | refine Qf ?_ | refine QU ?_ | refine QV ?_)) | ((with_reducible refine hK _ ?_); clear hK) | (clear hK; (with_reducible refine hK _ ?_); clear hK) | (refine Qj rfl ?_; simp only [↓reduceIte, QlH]))
  obtain ⟨I, hI⟩ : ∃ I : Nat → AS → Prop, I = fun m' s => ∃ (k : Nat) (out : List T), m' = r.body.length - k ∧ k ≤ r.body.length ∧ out ++ (YB (r.body.drop k) ++ ([])) = Zq r ∧ s.tm 1 = .ptr h.length 0 0 ∧ s.tm 3 = .sl 4 (avs out) (some (h.length + 1)) ∧ s.tm 7 = .i k ∧ s.h = h ++ [.cells 25 6 [r.av], .grow 69 4 out.length] := ⟨_, rfl⟩; refine Q9 I ?_ (m := r.body.length) ?_
  rotate_left
  · rw [hI]
    exact ⟨0, out, rfl, by omega, by first | exact he | (rw [List.append_nil]; exact he), t1, t3, rfl, rfl⟩
  intro m' s hs; rw [hI] at hs; obtain ⟨tm, hp⟩ := s; dsimp only at hs; obtain ⟨k, out, rfl, hk, he, t1, t3, tk, rfl⟩ := hs
  by_cases hlt : k < r.body.length
  · have hg := YN G.goal hlt
    have z1 : (k : Int) < r.body.length := by omega
    have hd1 : YB (r.body.drop k) = r.body[k].args ++ YB (r.body.drop (k + 1)) := by rw [List.drop_eq_getElem_cons hlt]; rfl
    rw [hd1] at he
    have hlen2 := congrArg List.length he
    simp only [Qmu] at hlen2
    have hb1 : out.length + r.body[k].args.length ≤ maxLen := by simp only [maxLen]; omega
    have hb2 : (out.length + r.body[k].args.length) * 56 ≤ 140737488355328 := by omega
    repeat (first | ((first | (with_reducible (first | refine Qa fun K E hK hE => ?_ | refine Qo fun K E hK hE => ?_))); simp -implicitDefEqProofs only [Qd, Qb, Qg, OpW, aop, AS.ev, Qc, Qq, Qk, ↓reduceIte, Nat.reduceLT, Nat.reduceEqDiff, QlP, Qmb, Ql, QK, QL, QJ, aBin, aLen, YV, Ze, QO, hget, hset, QlD, QlE, Ql7, Ql8, QlF, QW, Xf, goInt, Ql9, Qmg, Qmf, QE, ti23, ei23, un23, XP, ti44, ai44, Ya, t1, t3, tk, z1, hg, hb1, hb2, QE, QG, Rl.cells, Q3]) | (with_reducible (first | refine Qi fun K hK => ?_ | refine Qm ?_ | refine Qv ?_ | refine Qf ?_ | refine Qw ?_)) | ((with_reducible refine hK _ ?_); clear hK) | (refine Qj rfl ?_; simp only [↓reduceIte]))
    refine XD.mk (m' := r.body.length - (k + 1)) (by omega) ?_
    rw [hI]
    refine ⟨k + 1, out ++ r.body[k].args, rfl, hlt, by simp only [List.append_assoc] at he ⊢; exact he, t1, ?_, ?_, by rw [List.length_append]⟩
    · rw [ZF]; rfl
    · simp only [upd, ↓reduceIte]
      rw [Xe (by omega)]
  have hkn : k = r.body.length := by omega
  subst hkn
  have z : ¬ ((r.body.length : Nat) : Int) < r.body.length := by omega
  rw [List.drop_length, show YB [] = [] from rfl, List.nil_append] at he
  clear hlt hk
  rw [List.append_nil] at he
  repeat (first | (((with_reducible refine Qa fun K E hK hE => ?_)); simp -implicitDefEqProofs only [Qd, Qb, Qg, OpW, aop, AS.ev, Qc, Qk, ↓reduceIte, Nat.reduceLT, Nat.reduceEqDiff, QlP, Ql, QK, QL, aBin, aLen, QO, QlD, QlE, QlF, QW, goInt, Qma, ti23, un23, XP, t1, t3, tk, z, Rl.cells, QG]) | (with_reducible (first | refine Qi fun K hK => ?_ | refine Qn ?_ | refine Q2 ?_ | refine Qf ?_ | refine QU ?_ | refine QV ?_)) | ((with_reducible refine hK _ ?_); clear hK) | (clear hK; (with_reducible refine hK _ ?_); clear hK) | (refine Qj rfl ?_; simp only [↓reduceIte, QlH]))
  simp only [QN, Qp, Qu, upd, ↓reduceIte, QlJ, QlN]; first | refine Qe (htake _ _) (.tok (Qac _ _)) ⟨by rw [he], rfl⟩ | refine Qe List.take_length (.tok (Qac _ _)) ⟨by rw [he], rfl⟩
end Go.Proofs.YtenheconhibonaaGreatDoor.Ab
set_option maxRecDepth 4000
namespace Go.Proofs.YtenheconhibonaaGreatDoor.Ab
open Go.Proofs
theorem T.map_eq (g : Int → Int) (t : T) : t.map g = if t.kind = 1 then .mk t.kind (g t.int) t.name t.args else if t.kind = 2 then .mk t.kind t.int t.name (maps g t.args) else t := by
  cases t; simp only [T.map, T.kind, T.int, T.name, T.args]; rfl
theorem Qdf (g : Int → Int) : ∀ l : List T, maps g l = l.map (T.map g)
  | [] => rfl
  | t :: l => by simp only [maps, QlS, Qdf g l]
theorem QdY {g : Int → Int} {l : List T} {k : Nat} (h : k < l.length) : maps g (l.take (k + 1)) = maps g (l.take k) ++ [(l[k]).map g] := by
  rw [Qdf, Qdf, List.take_succ_eq_append_getElem h, List.map_append]; rfl
def G.mapV (f : Int → Int) (g : G) : G := { g with args := maps f g.args }
def Rl.mapV (f : Int → Int) (r : Rl) : Rl := ⟨r.name, r.keep.map (G.mapV f), r.remove.map (G.mapV f), r.guard.map (G.mapV f), r.body.map (G.mapV f), r.vars⟩
end Go.Proofs.YtenheconhibonaaGreatDoor.Ab
namespace Go.Proofs.YtenheconhibonaaGreatDoor.Ab
mutual
theorem T.map_map (f g : Int → Int) : ∀ t : T, (t.map f).map g = t.map fun n => g (f n)
  | .mk k i n l => by
    simp only [T.map]
    by_cases h1 : k = 1
    · simp [h1, T.map]
    · by_cases h2 : k = 2
      · simp only [if_neg h1, if_pos h2, T.map]; rw [Qf3 f g l]
      · simp [h1, h2, T.map]
theorem Qf3 (f g : Int → Int) : ∀ l : List T, maps g (maps f l) = maps (fun n => g (f n)) l
  | [] => rfl
  | t :: l => by rw [maps, maps, maps, T.map_map f g t, Qf3 f g l]
end
end Go.Proofs.YtenheconhibonaaGreatDoor.Ab
namespace Go.Proofs.YtenheconhibonaaGreatDoor.Ab
theorem Qbt (g : G) (l : List G) : YB (g :: l) = g.args ++ YB l := rfl
theorem QkO (s : List Int) (g : G) (r : List Int) : nG s g = (g.mapV fun n => ((plc (ded s (X9 g.args) ++ r) n : Nat) : Int), ded s (X9 g.args)) := by
  rw [nG, Qbo s g.args r]; rfl
theorem Qch : ∀ (s : List Int) (l : List G) (r : List Int), Yw nG s l = (l.map (G.mapV fun n => ((plc (ded s (X9 (YB l)) ++ r) n : Nat) : Int)), ded s (X9 (YB l)))
  | s, [], r => rfl
  | s, g :: l, r => by
    obtain ⟨q, hq⟩ := QcA (ded s (X9 g.args)) (X9 (YB l))
    rw [Yw, QkO s g (q ++ r)]
    simp only
    rw [Qch _ l r]
    simp only [Qbt, Zw, Zv, hq, List.append_assoc, QlS]
def Rl.seen (r : Rl) : List Int := ded [] (X9 (Zq r))
theorem Qhh (r : Rl) : numR r = { (r.mapV fun n => ((plc r.seen n : Nat) : Int)) with vars := (r.seen.length : Nat) } := by
  have e : r.seen = ded (ded (ded (ded [] (X9 (YB r.keep))) (X9 (YB r.remove))) (X9 (YB r.guard))) (X9 (YB r.body)) := by
    rw [Rl.seen, Zq]; simp only [Zw, Zv]
  obtain ⟨s1, e1⟩ : ∃ s, s = ded [] (X9 (YB r.keep)) := ⟨_, rfl⟩
  obtain ⟨s2, e2⟩ : ∃ s, s = ded s1 (X9 (YB r.remove)) := ⟨_, rfl⟩
  obtain ⟨s3, e3⟩ : ∃ s, s = ded s2 (X9 (YB r.guard)) := ⟨_, rfl⟩
  obtain ⟨s4, e4⟩ : ∃ s, s = ded s3 (X9 (YB r.body)) := ⟨_, rfl⟩
  rw [← e1, ← e2, ← e3, ← e4] at e
  obtain ⟨q2, h2⟩ := QcA s1 (X9 (YB r.remove))
  obtain ⟨q3, h3⟩ := QcA s2 (X9 (YB r.guard))
  obtain ⟨q4, h4⟩ := QcA s3 (X9 (YB r.body))
  rw [← e2] at h2
  rw [← e3] at h3
  rw [← e4] at h4
  have a1 := Qch [] r.keep (q2 ++ (q3 ++ q4))
  have a2 := Qch s1 r.remove (q3 ++ q4)
  have a3 := Qch s2 r.guard q4
  have a4 := Qch s3 r.body []
  rw [← e1] at a1
  rw [← e2] at a2
  rw [← e3] at a3
  rw [← e4, List.append_nil] at a4
  have f1 : s1 ++ (q2 ++ (q3 ++ q4)) = s4 := by rw [h4, h3, h2]; simp only [List.append_assoc]
  have f2 : s2 ++ (q3 ++ q4) = s4 := by rw [h4, h3]; simp only [List.append_assoc]
  have f3 : s3 ++ q4 = s4 := h4.symm
  rw [f1] at a1
  rw [f2] at a2
  rw [← h4] at a3
  rw [numR, a1]
  simp only
  rw [a2]
  simp only
  rw [a3]
  simp only
  rw [a4, e]
  rfl
theorem QjP {r : Rl} {v : Int} : v ∈ r.seen ↔ v ∈ X9 (Zq r) := by rw [Rl.seen, Qji]; simp
end Go.Proofs.YtenheconhibonaaGreatDoor.Ab
set_option maxRecDepth 4000
namespace Go.Proofs.YtenheconhibonaaGreatDoor.Ab
open Go.Proofs
mutual
theorem T.Qlz {g : Int → Int} : ∀ (t : T), (t.map g).nds = t.nds
  | .mk k i n l => by
    simp only [T.map]
    split
    · simp only [T.nds]
    · split
      · simp only [T.nds, QeZ l]
      · rfl
theorem QeZ {g : Int → Int} : ∀ (l : List T), ndsL (maps g l) = ndsL l
  | [] => rfl
  | t :: l => by simp only [maps, ndsL, T.Qlz t, QeZ l]
end
mutual
theorem T.map_ok {g : Int → Int} (hg : ∀ n, i64 n → i64 (g n)) : ∀ (t : T), t.ok → (t.map g).ok
  | .mk k i n l, h => by
    simp only [T.ok] at h
    obtain ⟨h1, h2, h3, h4⟩ := h
    simp only [T.map]
    split
    · simp only [T.ok]; exact ⟨h1, hg _ h2, h3, h4⟩
    · split
      · simp only [T.ok]; exact ⟨h1, h2, h3, Qhf hg l h4⟩
      · simp only [T.ok]; exact ⟨h1, h2, h3, h4⟩
theorem Qhf {g : Int → Int} (hg : ∀ n, i64 n → i64 (g n)) : ∀ (l : List T), oks l → oks (maps g l)
  | [], _ => trivial
  | t :: l, h => ⟨T.map_ok hg t h.1, Qhf hg l h.2⟩
end
theorem QhJ (a b : List T) : ndsL (a ++ b) = ndsL a + ndsL b := by
  induction a with
  | nil => simp [ndsL]
  | cons t a ih => simp only [Ql5, ndsL, ih]; omega
theorem QeA : ∀ l : List G, ndsL (YB l) = ndsG l
  | [] => rfl
  | g :: l => by rw [Qbt, QhJ, QeA l]; rfl
theorem Qjl : ∀ l : List G, gN l = l.length + ndsG l
  | [] => rfl
  | g :: l => by rw [gN, Qjl l, List.length_cons, ndsG]; omega
theorem Qi5 : ∀ l : List G, wG l = ndsG l
  | [] => rfl
  | g :: l => by have := Qi5 l; simp only [wG, QlS, List.sum_cons, ndsG] at this ⊢; rw [this]; rfl
theorem Qhx (f : Int → Int) : ∀ l : List G, ndsG (l.map (G.mapV f)) = ndsG l
  | [] => rfl
  | g :: l => by rw [List.map_cons, ndsG, ndsG, Qhx f l, G.mapV, QeZ]
def Rl.small (r : Rl) : Prop := (r.keep.length ≤ 300 ∧ r.remove.length ≤ 300 ∧ r.guard.length ≤ 300 ∧ r.body.length ≤ 300) ∧ ndsG r.keep ≤ 300 ∧ ndsG r.remove ≤ 300 ∧ ndsG r.guard ≤ 300 ∧ ndsG r.body ≤ 300
theorem YX {l : List G} (h : decide (Yu l 300 < 0) = false) : l.length ≤ 300 ∧ ndsG l ≤ 300 := by
  have h := of_decide_eq_false h
  have h1 := Qbv l 300 (by omega)
  have h2 := QdE l 300 (by omega)
  omega
theorem Qhp {r : Rl} (h : Zx r = false) : r.small := by
  simp only [Zx, Bool.or_eq_false_iff] at h
  obtain ⟨_, h1, h2, h3, h4⟩ := h
  exact ⟨⟨(YX h1).1, (YX h2).1, (YX h3).1, (YX h4).1⟩, (YX h1).2, (YX h2).2, (YX h3).2, (YX h4).2⟩
theorem QiH {r : Rl} (h : r.small) (f : Int → Int) : (r.mapV f).small := by
  simp only [Rl.small, Rl.mapV, List.length_map, Qhx] at h ⊢; exact h
theorem Qgd {r : Rl} (h : r.small) : (numR r).small := by
  have := QiH h fun n => ((plc r.seen n : Nat) : Int)
  rw [Qhh]; exact this
theorem Rl.small.fits {r : Rl} (h : r.small) : r.fits := by
  obtain ⟨⟨a, b, c, d⟩, e, f, g, i⟩ := h
  refine ⟨by omega, by omega, by omega, by omega, ?_⟩
  simp only [Qi5]; omega
theorem Rl.small.gNs {r : Rl} (h : r.small) : gN r.keep ≤ 1000000 ∧ gN r.remove ≤ 1000000 ∧ gN r.guard ≤ 1000000 ∧ gN r.body ≤ 1000000 := by
  obtain ⟨⟨a, b, c, d⟩, e, f, g, i⟩ := h
  simp only [Qjl]; omega
theorem Rl.small.terms {r : Rl} (h : r.small) : ndsL (Zq r) ≤ 1200 := by
  obtain ⟨⟨a, b, c, d⟩, e, f, g, i⟩ := h
  simp only [Zq, QhJ, QeA]; omega
theorem Qkm (v : Int) : ∀ u : List Int, plc u v ≤ u.length
  | [] => Nat.le_refl _
  | a :: u => by rw [plc]; split
                 · omega
                 · have := Qkm v u; simp only [QlQ]; omega
theorem Qfe {f : Int → Int} (hf : ∀ n, i64 n → i64 (f n)) {l : List G} (h : ∀ g ∈ l, g.ok) : ∀ g ∈ l.map (G.mapV f), g.ok := by
  intro g hg
  obtain ⟨x, hx, rfl⟩ := List.mem_map.1 hg
  obtain ⟨a, b, c⟩ := h x hx
  exact ⟨a, b, Qhf hf _ c⟩
theorem QkM {r : Rl} (h : r.ok) (hs : r.seen.length ≤ 1000000) : (numR r).ok := by
  have hf : ∀ n : Int, i64 n → i64 ((plc r.seen n : Nat) : Int) := fun n _ => by have := Qkm n r.seen; unfold i64; omega
  obtain ⟨a, b1, b2, b3, b4, c1, c2, c3, c4⟩ := h
  rw [Qhh]
  exact ⟨a, by simpa only [Rl.mapV, List.length_map] using b1, by simpa only [Rl.mapV, List.length_map] using b2, by simpa only [Rl.mapV, List.length_map] using b3, by simpa only [Rl.mapV, List.length_map] using b4, Qfe hf c1, Qfe hf c2, Qfe hf c3, Qfe hf c4⟩
end Go.Proofs.YtenheconhibonaaGreatDoor.Ab
namespace Go.Proofs.YtenheconhibonaaGreatDoor.Ab
open Go.Proofs
def Dc.ok (d : Dc) : Prop := d.name.size ≤ 9223372036854775807 ∧ i64 d.arity
def Pg.ok (p : Pg) : Prop := p.decls.length ≤ 9223372036854775807 ∧ p.rules.length ≤ 9223372036854775807 ∧ (∀ d ∈ p.decls, d.ok) ∧ (∀ r ∈ p.rules, r.ok)
theorem QhS {n : Int} (h : (Lit.int .i64 n).wf = true) : i64 n := by
  simpa [Lit.wf, IntKind.min, IntKind.max, IntKind.signed, IntKind.bits, i64] using h
theorem Qho : ∀ (l : List T), (∀ t ∈ l, t.ok) → oks l
  | [], _ => trivial
  | t :: l, h => ⟨h t (by simp), Qho l fun x hx => h x (by simp [hx])⟩
theorem Qf1 {n : Nat} (h : n ≤ maxLen) : n ≤ 9223372036854775807 := by simp only [maxLen] at h; omega
theorem Qh2 {c : Cx} {s : Nat} {xs : List AV} {own : Option Nat} {u : Value} (h : Rel c (.sl s xs own) u) : xs.length ≤ 9223372036854775807 := by
  cases h with
  | slnil => exact Nat.zero_le _
  | slzero => exact Nat.zero_le _
  | sl _ _ _ B o cap f hs hcap hmax hc hr ht => simp only [maxLen] at hmax; omega
theorem Y9 {X : Type} {f : X → AV} {c : Cx} {s : Nat} {xs : List X} {own : Option Nat} {u : Value} (h : Rel c (.sl s (xs.map f) own) u) : xs.length ≤ 9223372036854775807 := by
  have := Qh2 h; rwa [List.length_map] at this
theorem Qgu {H : Type} (enc : TypeId × Value → H) (W : World) : ∀ (fuel : Nat) (cs : List Value) (y : DataW H × List MemPlace), DataW.trod enc Tryz.prog W 0 (fun _ => true) true fuel 69 cs = some y → ∃ p : T, T.ok p ∧ Reads W (T.av p) cs := by
  intro fuel
  induction fuel using Nat.strongRecOn with
  | _ fuel ih =>
  intro cs y h
  obtain ⟨xs, fu, hfu, _, hl, hlen, hf⟩ := DataW.trod_struct Tryz.underlying69 h
  have hC : Tryz.prog.cellsOf 69 = 4 := by kernel_rfl
  rw [hC] at hl
  have hlenN : xs.length = 4 := hlen
  obtain ⟨y0, l1, rfl, k1⟩ := Xx hlenN
  obtain ⟨y1, l2, rfl, k2⟩ := Xx k1
  obtain ⟨y2, l3, rfl, k3⟩ := Xx k2
  obtain ⟨y3, l4, rfl, k4⟩ := Xx k3
  obtain rfl := len_nil k4
  obtain ⟨c0, l1, rfl, k1⟩ := Xx hl
  obtain ⟨c1, l2, rfl, k2⟩ := Xx k1
  obtain ⟨c2, l3, rfl, k3⟩ := Xx k2
  obtain ⟨c3, l4, rfl, k4⟩ := Xx k3
  obtain rfl := len_nil k4
  have g0 : DataW.trod enc Tryz.prog W 0 (fun _ => true) true fu 3 (([c0, c1, c2, c3].drop 0).take (Tryz.prog.cellsOf 3)) = some y0 := hf 0 _ rfl
  rw [show Tryz.prog.cellsOf 3 = 1 by kernel_rfl] at g0
  have g1 : DataW.trod enc Tryz.prog W 0 (fun _ => true) true fu 3 (([c0, c1, c2, c3].drop 1).take (Tryz.prog.cellsOf 3)) = some y1 := hf 1 _ rfl
  rw [show Tryz.prog.cellsOf 3 = 1 by kernel_rfl] at g1
  have g2 : DataW.trod enc Tryz.prog W 0 (fun _ => true) true fu 9 (([c0, c1, c2, c3].drop 2).take (Tryz.prog.cellsOf 9)) = some y2 := hf 2 _ rfl
  rw [show Tryz.prog.cellsOf 9 = 1 by kernel_rfl] at g2
  have g3 : DataW.trod enc Tryz.prog W 0 (fun _ => true) true fu 44 (([c0, c1, c2, c3].drop 3).take (Tryz.prog.cellsOf 44)) = some y3 := hf 3 _ rfl
  rw [show Tryz.prog.cellsOf 44 = 1 by kernel_rfl] at g3
  clear hf
  simp only [QlU, QlM, QlO, QlV] at g0 g1 g2 g3
  obtain ⟨f0, e0, _, w0⟩ := DataW.trod_int Tryz.underlying3 g0
  obtain ⟨f1, e1, _, w1⟩ := DataW.trod_int Tryz.underlying3 g1
  obtain ⟨f2, e2, _, w2⟩ := DataW.trod_string Tryz.underlying9 g2
  obtain ⟨f3, u3, q3, e3, hu3, hr3⟩ := Y8 (X := T) (val := T.av) (Good := T.ok) (s := 4) Tryz.underlying44 (by kernel_rfl) (by omega) (fun t => by rw [T.Qk4]; rfl) (fun m cs y hm hy => ih m (by omega) cs y hy) g3
  have n3 := Y9 hr3
  rw [← Qba] at hr3
  cases e0
  cases e1
  cases e2
  cases e3
  refine ⟨.mk f0 f1 f2 f3, by simp only [T.ok]; exact ⟨QhS w0, QhS w1, Qf1 w2, Qho _ q3⟩, rfl, fun j x v hx hv => ?_⟩
  rw [T.Qk4] at hx
  simp only [T.kind, T.int, T.name, T.args] at hx
  match j, hx, hv with
  | 0, hx, hv => simp at hx hv; subst hx; subst hv; exact ⟨.v _, rfl⟩
  | 1, hx, hv => simp at hx hv; subst hx; subst hv; exact ⟨.v _, rfl⟩
  | 2, hx, hv => simp at hx hv; subst hx; subst hv; exact ⟨.v _, rfl⟩
  | 3, hx, hv => simp at hx hv; subst hx; subst hv; exact ⟨hr3, hu3⟩
  | j + 4, hx, hv => simp at hx
theorem Qf4 {H : Type} (enc : TypeId × Value → H) (W : World) (fuel : Nat) (cs : List Value) (y : DataW H × List MemPlace) (h : DataW.trod enc Tryz.prog W 0 (fun _ => true) true fuel 66 cs = some y) : ∃ p : G, G.ok p ∧ Reads W (G.atom p) cs := by
  obtain ⟨xs, fu, hfu, _, hl, hlen, hf⟩ := DataW.trod_struct Tryz.underlying66 h
  have hC : Tryz.prog.cellsOf 66 = 2 := by kernel_rfl
  rw [hC] at hl
  have hlenN : xs.length = 2 := hlen
  obtain ⟨y0, l1, rfl, k1⟩ := Xx hlenN
  obtain ⟨y1, l2, rfl, k2⟩ := Xx k1
  obtain rfl := len_nil k2
  obtain ⟨c0, l1, rfl, k1⟩ := Xx hl
  obtain ⟨c1, l2, rfl, k2⟩ := Xx k1
  obtain rfl := len_nil k2
  have g0 : DataW.trod enc Tryz.prog W 0 (fun _ => true) true fu 9 (([c0, c1].drop 0).take (Tryz.prog.cellsOf 9)) = some y0 := hf 0 _ rfl
  rw [show Tryz.prog.cellsOf 9 = 1 by kernel_rfl] at g0
  have g1 : DataW.trod enc Tryz.prog W 0 (fun _ => true) true fu 44 (([c0, c1].drop 1).take (Tryz.prog.cellsOf 44)) = some y1 := hf 1 _ rfl
  rw [show Tryz.prog.cellsOf 44 = 1 by kernel_rfl] at g1
  clear hf
  simp only [QlU, QlM, QlO, QlV] at g0 g1
  obtain ⟨f0, e0, _, w0⟩ := DataW.trod_string Tryz.underlying9 g0
  obtain ⟨f1, u1, q1, e1, hu1, hr1⟩ := Y8 (X := T) (val := T.av) (Good := T.ok) (s := 4) Tryz.underlying44 (by kernel_rfl) (by omega) (fun t => by rw [T.Qk4]; rfl) (fun m cs y _ hy => Qgu enc W m cs y hy) g1
  have n1 := Y9 hr1
  rw [← Qba] at hr1
  cases e0
  cases e1
  refine ⟨⟨0, f0, f1⟩, ⟨by show i64 0; unfold i64; omega, Qf1 w0, Qho _ q1⟩, rfl, fun j x v hx hv => ?_⟩
  rw [XB] at hx
  match j, hx, hv with
  | 0, hx, hv => simp at hx hv; subst hx; subst hv; exact ⟨.v _, rfl⟩
  | 1, hx, hv => simp at hx hv; subst hx; subst hv; exact ⟨hr1, hu1⟩
  | j + 2, hx, hv => simp at hx
theorem QdH {H : Type} (enc : TypeId × Value → H) (W : World) (fuel : Nat) (cs : List Value) (y : DataW H × List MemPlace) (h : DataW.trod enc Tryz.prog W 0 (fun _ => true) true fuel 53 cs = some y) : ∃ p : G, G.ok p ∧ Reads W (G.goal p) cs := by
  obtain ⟨xs, fu, hfu, _, hl, hlen, hf⟩ := DataW.trod_struct Tryz.underlying53 h
  have hC : Tryz.prog.cellsOf 53 = 3 := by kernel_rfl
  rw [hC] at hl
  have hlenN : xs.length = 3 := hlen
  obtain ⟨y0, l1, rfl, k1⟩ := Xx hlenN
  obtain ⟨y1, l2, rfl, k2⟩ := Xx k1
  obtain ⟨y2, l3, rfl, k3⟩ := Xx k2
  obtain rfl := len_nil k3
  obtain ⟨c0, l1, rfl, k1⟩ := Xx hl
  obtain ⟨c1, l2, rfl, k2⟩ := Xx k1
  obtain ⟨c2, l3, rfl, k3⟩ := Xx k2
  obtain rfl := len_nil k3
  have g0 : DataW.trod enc Tryz.prog W 0 (fun _ => true) true fu 3 (([c0, c1, c2].drop 0).take (Tryz.prog.cellsOf 3)) = some y0 := hf 0 _ rfl
  rw [show Tryz.prog.cellsOf 3 = 1 by kernel_rfl] at g0
  have g1 : DataW.trod enc Tryz.prog W 0 (fun _ => true) true fu 9 (([c0, c1, c2].drop 1).take (Tryz.prog.cellsOf 9)) = some y1 := hf 1 _ rfl
  rw [show Tryz.prog.cellsOf 9 = 1 by kernel_rfl] at g1
  have g2 : DataW.trod enc Tryz.prog W 0 (fun _ => true) true fu 44 (([c0, c1, c2].drop 2).take (Tryz.prog.cellsOf 44)) = some y2 := hf 2 _ rfl
  rw [show Tryz.prog.cellsOf 44 = 1 by kernel_rfl] at g2
  clear hf
  simp only [QlU, QlM, QlO, QlV] at g0 g1 g2
  obtain ⟨f0, e0, _, w0⟩ := DataW.trod_int Tryz.underlying3 g0
  obtain ⟨f1, e1, _, w1⟩ := DataW.trod_string Tryz.underlying9 g1
  obtain ⟨f2, u2, q2, e2, hu2, hr2⟩ := Y8 (X := T) (val := T.av) (Good := T.ok) (s := 4) Tryz.underlying44 (by kernel_rfl) (by omega) (fun t => by rw [T.Qk4]; rfl) (fun m cs y _ hy => Qgu enc W m cs y hy) g2
  have n2 := Y9 hr2
  rw [← Qba] at hr2
  cases e0
  cases e1
  cases e2
  refine ⟨⟨f0, f1, f2⟩, ⟨QhS w0, Qf1 w1, Qho _ q2⟩, rfl, fun j x v hx hv => ?_⟩
  rw [Q3] at hx
  match j, hx, hv with
  | 0, hx, hv => simp at hx hv; subst hx; subst hv; exact ⟨.v _, rfl⟩
  | 1, hx, hv => simp at hx hv; subst hx; subst hv; exact ⟨.v _, rfl⟩
  | 2, hx, hv => simp at hx hv; subst hx; subst hv; exact ⟨hr2, hu2⟩
  | j + 3, hx, hv => simp at hx
theorem QfR {H : Type} (enc : TypeId × Value → H) (W : World) (fuel : Nat) (cs : List Value) (y : DataW H × List MemPlace) (h : DataW.trod enc Tryz.prog W 0 (fun _ => true) true fuel 25 cs = some y) : ∃ p : Rl, Rl.ok p ∧ Reads W (Rl.av p) cs := by
  obtain ⟨xs, fu, hfu, _, hl, hlen, hf⟩ := DataW.trod_struct Tryz.underlying25 h
  have hC : Tryz.prog.cellsOf 25 = 6 := by kernel_rfl
  rw [hC] at hl
  have hlenN : xs.length = 6 := hlen
  obtain ⟨y0, l1, rfl, k1⟩ := Xx hlenN
  obtain ⟨y1, l2, rfl, k2⟩ := Xx k1
  obtain ⟨y2, l3, rfl, k3⟩ := Xx k2
  obtain ⟨y3, l4, rfl, k4⟩ := Xx k3
  obtain ⟨y4, l5, rfl, k5⟩ := Xx k4
  obtain ⟨y5, l6, rfl, k6⟩ := Xx k5
  obtain rfl := len_nil k6
  obtain ⟨c0, l1, rfl, k1⟩ := Xx hl
  obtain ⟨c1, l2, rfl, k2⟩ := Xx k1
  obtain ⟨c2, l3, rfl, k3⟩ := Xx k2
  obtain ⟨c3, l4, rfl, k4⟩ := Xx k3
  obtain ⟨c4, l5, rfl, k5⟩ := Xx k4
  obtain ⟨c5, l6, rfl, k6⟩ := Xx k5
  obtain rfl := len_nil k6
  have g0 : DataW.trod enc Tryz.prog W 0 (fun _ => true) true fu 9 (([c0, c1, c2, c3, c4, c5].drop 0).take (Tryz.prog.cellsOf 9)) = some y0 := hf 0 _ rfl
  rw [show Tryz.prog.cellsOf 9 = 1 by kernel_rfl] at g0
  have g1 : DataW.trod enc Tryz.prog W 0 (fun _ => true) true fu 22 (([c0, c1, c2, c3, c4, c5].drop 1).take (Tryz.prog.cellsOf 22)) = some y1 := hf 1 _ rfl
  rw [show Tryz.prog.cellsOf 22 = 1 by kernel_rfl] at g1
  have g2 : DataW.trod enc Tryz.prog W 0 (fun _ => true) true fu 22 (([c0, c1, c2, c3, c4, c5].drop 2).take (Tryz.prog.cellsOf 22)) = some y2 := hf 2 _ rfl
  rw [show Tryz.prog.cellsOf 22 = 1 by kernel_rfl] at g2
  have g3 : DataW.trod enc Tryz.prog W 0 (fun _ => true) true fu 23 (([c0, c1, c2, c3, c4, c5].drop 3).take (Tryz.prog.cellsOf 23)) = some y3 := hf 3 _ rfl
  rw [show Tryz.prog.cellsOf 23 = 1 by kernel_rfl] at g3
  have g4 : DataW.trod enc Tryz.prog W 0 (fun _ => true) true fu 23 (([c0, c1, c2, c3, c4, c5].drop 4).take (Tryz.prog.cellsOf 23)) = some y4 := hf 4 _ rfl
  rw [show Tryz.prog.cellsOf 23 = 1 by kernel_rfl] at g4
  have g5 : DataW.trod enc Tryz.prog W 0 (fun _ => true) true fu 3 (([c0, c1, c2, c3, c4, c5].drop 5).take (Tryz.prog.cellsOf 3)) = some y5 := hf 5 _ rfl
  rw [show Tryz.prog.cellsOf 3 = 1 by kernel_rfl] at g5
  clear hf
  simp only [QlU, QlM, QlO, QlV] at g0 g1 g2 g3 g4 g5
  obtain ⟨f0, e0, _, w0⟩ := DataW.trod_string Tryz.underlying9 g0
  obtain ⟨f1, u1, q1, e1, hu1, hr1⟩ := Y8 (X := G) (val := G.atom) (Good := G.ok) (s := 2) Tryz.underlying22 (by kernel_rfl) (by omega) (fun t => by rw [XB]; rfl) (fun m cs y _ hy => Qf4 enc W m cs y hy) g1
  have n1 := Y9 hr1
  obtain ⟨f2, u2, q2, e2, hu2, hr2⟩ := Y8 (X := G) (val := G.atom) (Good := G.ok) (s := 2) Tryz.underlying22 (by kernel_rfl) (by omega) (fun t => by rw [XB]; rfl) (fun m cs y _ hy => Qf4 enc W m cs y hy) g2
  have n2 := Y9 hr2
  obtain ⟨f3, u3, q3, e3, hu3, hr3⟩ := Y8 (X := G) (val := G.goal) (Good := G.ok) (s := 3) Tryz.underlying23 (by kernel_rfl) (by omega) (fun t => by rw [Q3]; rfl) (fun m cs y _ hy => QdH enc W m cs y hy) g3
  have n3 := Y9 hr3
  obtain ⟨f4, u4, q4, e4, hu4, hr4⟩ := Y8 (X := G) (val := G.goal) (Good := G.ok) (s := 3) Tryz.underlying23 (by kernel_rfl) (by omega) (fun t => by rw [Q3]; rfl) (fun m cs y _ hy => QdH enc W m cs y hy) g4
  have n4 := Y9 hr4
  obtain ⟨f5, e5, _, w5⟩ := DataW.trod_int Tryz.underlying3 g5
  cases e0
  cases e1
  cases e2
  cases e3
  cases e4
  cases e5
  refine ⟨⟨f0, f1, f2, f3, f4, f5⟩, ⟨Qf1 w0, n1, n2, n3, n4, q1, q2, q3, q4⟩, rfl, fun j x v hx hv => ?_⟩
  rw [Rl.cells] at hx
  match j, hx, hv with
  | 0, hx, hv => simp at hx hv; subst hx; subst hv; exact ⟨.v _, rfl⟩
  | 1, hx, hv => simp at hx hv; subst hx; subst hv; exact ⟨hr1, hu1⟩
  | 2, hx, hv => simp at hx hv; subst hx; subst hv; exact ⟨hr2, hu2⟩
  | 3, hx, hv => simp at hx hv; subst hx; subst hv; exact ⟨hr3, hu3⟩
  | 4, hx, hv => simp at hx hv; subst hx; subst hv; exact ⟨hr4, hu4⟩
  | 5, hx, hv => simp at hx hv; subst hx; subst hv; exact ⟨.v _, rfl⟩
  | j + 6, hx, hv => simp at hx
theorem Qjn {H : Type} (enc : TypeId × Value → H) (W : World) (fuel : Nat) (cs : List Value) (y : DataW H × List MemPlace) (h : DataW.trod enc Tryz.prog W 0 (fun _ => true) true fuel 38 cs = some y) : ∃ p : Dc, Dc.ok p ∧ Reads W (Dc.av p) cs := by
  obtain ⟨xs, fu, hfu, _, hl, hlen, hf⟩ := DataW.trod_struct Tryz.underlying38 h
  have hC : Tryz.prog.cellsOf 38 = 2 := by kernel_rfl
  rw [hC] at hl
  have hlenN : xs.length = 2 := hlen
  obtain ⟨y0, l1, rfl, k1⟩ := Xx hlenN
  obtain ⟨y1, l2, rfl, k2⟩ := Xx k1
  obtain rfl := len_nil k2
  obtain ⟨c0, l1, rfl, k1⟩ := Xx hl
  obtain ⟨c1, l2, rfl, k2⟩ := Xx k1
  obtain rfl := len_nil k2
  have g0 : DataW.trod enc Tryz.prog W 0 (fun _ => true) true fu 9 (([c0, c1].drop 0).take (Tryz.prog.cellsOf 9)) = some y0 := hf 0 _ rfl
  rw [show Tryz.prog.cellsOf 9 = 1 by kernel_rfl] at g0
  have g1 : DataW.trod enc Tryz.prog W 0 (fun _ => true) true fu 3 (([c0, c1].drop 1).take (Tryz.prog.cellsOf 3)) = some y1 := hf 1 _ rfl
  rw [show Tryz.prog.cellsOf 3 = 1 by kernel_rfl] at g1
  clear hf
  simp only [QlU, QlM, QlO, QlV] at g0 g1
  obtain ⟨f0, e0, _, w0⟩ := DataW.trod_string Tryz.underlying9 g0
  obtain ⟨f1, e1, _, w1⟩ := DataW.trod_int Tryz.underlying3 g1
  cases e0
  cases e1
  refine ⟨⟨f0, f1⟩, ⟨Qf1 w0, QhS w1⟩, rfl, fun j x v hx hv => ?_⟩
  rw [Dc.cells] at hx
  match j, hx, hv with
  | 0, hx, hv => simp at hx hv; subst hx; subst hv; exact ⟨.v _, rfl⟩
  | 1, hx, hv => simp at hx hv; subst hx; subst hv; exact ⟨.v _, rfl⟩
  | j + 2, hx, hv => simp at hx
theorem QgC {H : Type} (enc : TypeId × Value → H) (W : World) (fuel : Nat) (cs : List Value) (y : DataW H × List MemPlace) (h : DataW.trod enc Tryz.prog W 0 (fun _ => true) true fuel 35 cs = some y) : ∃ p : Pg, Pg.ok p ∧ Reads W (Pg.av p) cs := by
  obtain ⟨xs, fu, hfu, _, hl, hlen, hf⟩ := DataW.trod_struct Tryz.underlying35 h
  have hC : Tryz.prog.cellsOf 35 = 2 := by kernel_rfl
  rw [hC] at hl
  have hlenN : xs.length = 2 := hlen
  obtain ⟨y0, l1, rfl, k1⟩ := Xx hlenN
  obtain ⟨y1, l2, rfl, k2⟩ := Xx k1
  obtain rfl := len_nil k2
  obtain ⟨c0, l1, rfl, k1⟩ := Xx hl
  obtain ⟨c1, l2, rfl, k2⟩ := Xx k1
  obtain rfl := len_nil k2
  have g0 : DataW.trod enc Tryz.prog W 0 (fun _ => true) true fu 33 (([c0, c1].drop 0).take (Tryz.prog.cellsOf 33)) = some y0 := hf 0 _ rfl
  rw [show Tryz.prog.cellsOf 33 = 1 by kernel_rfl] at g0
  have g1 : DataW.trod enc Tryz.prog W 0 (fun _ => true) true fu 27 (([c0, c1].drop 1).take (Tryz.prog.cellsOf 27)) = some y1 := hf 1 _ rfl
  rw [show Tryz.prog.cellsOf 27 = 1 by kernel_rfl] at g1
  clear hf
  simp only [QlU, QlM, QlO, QlV] at g0 g1
  obtain ⟨f0, u0, q0, e0, hu0, hr0⟩ := Y8 (X := Dc) (val := Dc.av) (Good := Dc.ok) (s := 2) Tryz.underlying33 (by kernel_rfl) (by omega) (fun t => by rw [Dc.cells]; rfl) (fun m cs y _ hy => Qjn enc W m cs y hy) g0
  have n0 := Y9 hr0
  obtain ⟨f1, u1, q1, e1, hu1, hr1⟩ := Y8 (X := Rl) (val := Rl.av) (Good := Rl.ok) (s := 6) Tryz.underlying27 (by kernel_rfl) (by omega) (fun t => by rw [Rl.cells]; rfl) (fun m cs y _ hy => QfR enc W m cs y hy) g1
  have n1 := Y9 hr1
  cases e0
  cases e1
  refine ⟨⟨f0, f1⟩, ⟨n0, n1, q0, q1⟩, rfl, fun j x v hx hv => ?_⟩
  rw [Pg.cells] at hx
  match j, hx, hv with
  | 0, hx, hv => simp at hx hv; subst hx; subst hv; exact ⟨hr0, hu0⟩
  | 1, hx, hv => simp at hx hv; subst hx; subst hv; exact ⟨hr1, hu1⟩
  | j + 2, hx, hv => simp at hx
end Go.Proofs.YtenheconhibonaaGreatDoor.Ab
set_option maxRecDepth 4000
namespace Go.Proofs.YtenheconhibonaaGreatDoor.Ab
open Go.Proofs
mutual
def T.Qk7 : T → Bool
  | .mk k i n l =>
    if k = 0 then decide (-2147483648 ≤ i ∧ i ≤ 2147483648) && Yr n && l.isEmpty else
    if k = 1 then decide (0 ≤ i ∧ i ≤ 1048576) && Yr n && l.isEmpty else
    if k = 2 then (if i ≠ 0 ∨ 6 < l.length then false else if (!Yv n && !(opB n && decide (l.length = 2))) = true then false else YT l) else false
def YT : List T → Bool
  | [] => true
  | t :: l => t.Qk7 && YT l
end
theorem T.Qk8 (t : T) : t.Qk7 = if t.kind = 0 then decide (-2147483648 ≤ t.int ∧ t.int ≤ 2147483648) && Yr t.name && t.args.isEmpty else
    if t.kind = 1 then decide (0 ≤ t.int ∧ t.int ≤ 1048576) && Yr t.name && t.args.isEmpty else
    if t.kind = 2 then (if t.int ≠ 0 ∨ 6 < t.args.length then false else if (!Yv t.name && !(opB t.name && decide (t.args.length = 2))) = true then false else YT t.args) else false := by
  cases t; rw [T.Qk7]; rfl
theorem QgW {l : List T} {k : Nat} (h : k < l.length) : YT (l.drop k) = ((l[k]).Qk7 && YT (l.drop (k + 1))) := by
  rw [List.drop_eq_getElem_cons h]; simp only [YT]
theorem QdS {p q : Prop} [Decidable p] [Decidable q] : (decide p && decide q) = decide (p ∧ q) := by
  by_cases hp : p <;> by_cases hq : q <;> simp [hp, hq]
mutual
theorem T.Qld : ∀ (t : T) (b d : Int), (t.run b d).1 = (t.Qk7 && decide ((t.size : Int) ≤ b ∧ (t.dep : Int) ≤ d)) ∧ ((t.run b d).1 = true → (t.run b d).2 = b - t.size)
  | .mk k i n l, b, d => by
    have hs := size_pos (.mk k i n l)
    have hd : 1 ≤ (T.mk k i n l).dep := by rw [T.Qlv]; omega
    rw [T.run, T.Qk7]
    by_cases h1 : b - 1 < 0 ∨ d < 1
    · rw [if_pos h1, decide_eq_false (show ¬ (((T.mk k i n l).size : Int) ≤ b ∧ ((T.mk k i n l).dep : Int) ≤ d) by omega), Bool.and_false]
      exact ⟨rfl, fun h => by cases h⟩
    rw [if_neg h1]
    have one : k ≠ 2 → (T.mk k i n l).size = 1 ∧ (T.mk k i n l).dep = 1 := fun h => by simp only [T.size, T.dep, if_neg h]; exact ⟨trivial, trivial⟩
    by_cases k0 : k = 0
    · obtain ⟨e1, e2⟩ := one (by omega)
      rw [if_pos k0, if_pos k0, e1, e2, decide_eq_true (show ((1 : Nat) : Int) ≤ b ∧ ((1 : Nat) : Int) ≤ d by omega), Bool.and_true]
      exact ⟨rfl, fun _ => rfl⟩
    rw [if_neg k0, if_neg k0]
    by_cases k1 : k = 1
    · obtain ⟨e1, e2⟩ := one (by omega)
      rw [if_pos k1, if_pos k1, e1, e2, decide_eq_true (show ((1 : Nat) : Int) ≤ b ∧ ((1 : Nat) : Int) ≤ d by omega), Bool.and_true]
      exact ⟨rfl, fun _ => rfl⟩
    rw [if_neg k1, if_neg k1]
    by_cases k2 : k = 2
    · rw [if_pos k2, if_pos k2]
      by_cases h2 : i ≠ 0 ∨ 6 < l.length
      · rw [if_pos h2, if_pos h2]; exact ⟨rfl, fun h => by cases h⟩
      rw [if_neg h2, if_neg h2]
      by_cases h3 : (!Yv n && !(opB n && decide (l.length = 2))) = true
      · rw [if_pos h3, if_pos h3]; exact ⟨rfl, fun h => by cases h⟩
      rw [if_neg h3, if_neg h3]
      have e1 : (T.mk k i n l).size = 1 + sizes l := by simp only [T.size, if_pos k2]
      have e2 : (T.mk k i n l).dep = 1 + deps l := by simp only [T.dep, if_pos k2]
      obtain ⟨r1, r2⟩ := QaY l (b - 1) (d - 1) (by omega) (by omega)
      rw [e1, e2]
      refine ⟨?_, fun h => by rw [r2 h]; omega⟩
      rw [r1]
      congr 1
      exact decide_eq_decide.2 (by omega)
    · rw [if_neg k2, if_neg k2]; exact ⟨rfl, fun h => by cases h⟩
theorem QaY : ∀ (l : List T) (b d : Int), 0 ≤ b → 0 ≤ d → (runL l b d).1 = (YT l && decide ((sizes l : Int) ≤ b ∧ (deps l : Int) ≤ d)) ∧ ((runL l b d).1 = true → (runL l b d).2 = b - sizes l)
  | [], b, d, hb, hd => by
    rw [runL, YT, sizes, deps, decide_eq_true (show ((0 : Nat) : Int) ≤ b ∧ ((0 : Nat) : Int) ≤ d by omega)]
    exact ⟨rfl, fun _ => by omega⟩
  | t :: l, b, d, hb, hd => by
    obtain ⟨r1, r2⟩ := T.Qld t b d
    rw [runL, YT, sizes, deps]
    by_cases h : (t.run b d).1 = true
    · rw [if_pos h]
      have e := r2 h
      rw [r1, Bool.and_eq_true, decide_eq_true_eq] at h
      obtain ⟨hf, h1, h2⟩ := h
      obtain ⟨q1, q2⟩ := QaY l (t.run b d).2 d (by omega) hd
      rw [hf, Bool.true_and]
      refine ⟨?_, fun h => by rw [q2 h]; omega⟩
      rw [q1]
      congr 1
      exact decide_eq_decide.2 (by omega)
    · rw [if_neg h]
      refine ⟨?_, fun h => by cases h⟩
      rw [r1] at h
      cases hf : t.Qk7 with
      | false => rfl
      | true =>
        rw [hf, Bool.true_and, decide_eq_true_eq] at h
        rw [decide_eq_false (by omega), Bool.and_false]
end
theorem T.Qlp (t : T) : (t.run 200 20).1 = (t.Qk7 && (decide (t.size ≤ 200) && decide (t.dep ≤ 20))) := by
  rw [(T.Qld t 200 20).1, QdS]
  congr 1
  exact decide_eq_decide.2 (by omega)
def rargs : List T → Nat → Bool
  | [], n => decide (n ≤ 200)
  | t :: l, n => (t.run 200 20).1 && rargs l (n + t.size)
theorem QhI : ∀ (l : List T) (n : Nat), 200 < n → rargs l n = false
  | [], n, h => by rw [rargs, decide_eq_false (by omega)]
  | t :: l, n, h => by rw [rargs, QhI l _ (by omega), Bool.and_false]
theorem Qgb : ∀ (l : List T) (n : Nat), n ≤ 200 → rargs l n = (runL l (200 - n) 20).1
  | [], n, h => by rw [rargs, runL, decide_eq_true h]
  | t :: l, n, h => by
    obtain ⟨r1, _⟩ := T.Qld t 200 20
    obtain ⟨q1, q2⟩ := T.Qld t (200 - n) 20
    rw [rargs, runL, r1]
    by_cases hq : (t.run (200 - n) 20).1 = true
    · rw [if_pos hq, q2 hq]
      rw [q1, Bool.and_eq_true, decide_eq_true_eq] at hq
      rw [hq.1, decide_eq_true (by omega), Bool.true_and, Bool.true_and, Qgb l (n + t.size) (by omega)]
      congr 2; omega
    · rw [if_neg hq]
      rw [q1] at hq
      cases hf : t.Qk7 with
      | false => rfl
      | true =>
        rw [hf, Bool.true_and, decide_eq_true_eq] at hq
        by_cases h2 : n + t.size ≤ 200
        · rw [decide_eq_false (by omega)]; rfl
        · rw [QhI l _ (by omega), Bool.and_false]
theorem Qjm (l : List T) : rargs l 0 = (runL l 200 20).1 := by
  have := Qgb l 0 (by omega)
  simpa using this
mutual
theorem T.Qla : ∀ t : T, t.size ≤ t.nds
  | .mk k i n l => by
    simp only [T.size, T.nds]
    have := Qbe l
    split <;> omega
theorem Qbe : ∀ l : List T, sizes l ≤ ndsL l
  | [] => Nat.le_refl _
  | t :: l => by
    simp only [sizes, ndsL]
    have := T.Qla t
    have := Qbe l
    omega
end
theorem Qkb (t : T) (k0 : t.kind = 0) : Pure Tryz.prog 169 [t.av] (.b t.Qk7) := by
  intro h
  have z0 : (t.kind == 0) = true := by simp [k0]
  by_cases c1 : t.int ≥ -2147483648
  rotate_left
  · have e1 : ¬ -2147483648 ≤ t.int := by omega
    have R : t.Qk7 = false := by
      rw [T.Qk8, if_pos k0]; simp [e1]
    rw [R]
    refine Qh Tryz.func169 rfl Tryz.call169 Tryz.ntmps169 (congrArg Array.toList Tryz.results169) (by simp) ?_
    repeat (first | (((with_reducible refine Qa fun K E hK hE => ?_)); simp -implicitDefEqProofs only [Qd, Qb, Qg, OpW, aop, undef, AS.ev, Qc, Qq, Qr, Qk, QD, QlK, AV.Qk5, QlX, QlY, QC, QA, QI, QlZ, ↓reduceIte, QlQ, QlR, Nat.reduceAdd, Nat.reduceLT, Nat.reduceEqDiff, QlP, Ql2, Ql, QK, QL, aBin, QO, QlD, QlE, QlF, QlI, QlG, QS, Yl, Qma, QlH, beq_true, T.Qk4, ti3, Xu, XS, T.Qk4, z0, c1]) | (with_reducible (first | refine Qi fun K hK => ?_ | refine Qm ?_ | refine Qn ?_ | refine QB ?_ | refine QH ?_)) | ((with_reducible refine hK _ ?_); clear hK) | (refine Qj rfl ?_; simp only [↓reduceIte]))
    simp only [QN, Qp, Qu, upd, ↓reduceIte, QlJ, QlN]; first | refine Qe (htake _ _) (.keep (.v _)) ⟨rfl, rfl⟩ | refine Qe List.take_length (.keep (.v _)) ⟨rfl, rfl⟩
  have e1 : -2147483648 ≤ t.int := by omega
  by_cases c2 : t.int ≤ 2147483648
  rotate_left
  · skip
    have R : t.Qk7 = false := by
      rw [T.Qk8, if_pos k0]; simp [e1, c2]
    rw [R]
    refine Qh Tryz.func169 rfl Tryz.call169 Tryz.ntmps169 (congrArg Array.toList Tryz.results169) (by simp) ?_
    repeat (first | (((with_reducible refine Qa fun K E hK hE => ?_)); simp -implicitDefEqProofs only [Qd, Qb, Qg, OpW, aop, undef, AS.ev, Qc, Qq, Qr, Qk, QD, QlK, AV.Qk5, QlX, QlY, QC, QA, QI, QlZ, ↓reduceIte, QlQ, QlR, Nat.reduceAdd, Nat.reduceLT, Nat.reduceEqDiff, QlP, Ql2, Ql, QK, QL, aBin, QO, QlD, QlE, QlF, QlI, QlG, QS, X5, Yl, Ql9, Qma, QlL, QlH, beq_true, T.Qk4, ti3, Xu, XS, T.Qk4, z0, c1, c2]) | (with_reducible (first | refine Qi fun K hK => ?_ | refine Qm ?_ | refine Qn ?_ | refine QB ?_ | refine QH ?_)) | ((with_reducible refine hK _ ?_); clear hK) | (refine Qj rfl ?_; simp only [↓reduceIte]))
    simp only [QN, Qp, Qu, upd, ↓reduceIte, QlJ, QlN]; first | refine Qe (htake _ _) (.keep (.v _)) ⟨rfl, rfl⟩ | refine Qe List.take_length (.keep (.v _)) ⟨rfl, rfl⟩
  cases c3 : Yr t.name with
  | false =>
    have c3' : (t.name.toList == ({ data := #[] } : ByteArray).toList) = false := c3
    have R : t.Qk7 = false := by
      rw [T.Qk8, if_pos k0]; simp [e1, c2, c3]
    rw [R]
    refine Qh Tryz.func169 rfl Tryz.call169 Tryz.ntmps169 (congrArg Array.toList Tryz.results169) (by simp) ?_
    repeat (first | (((with_reducible refine Qa fun K E hK hE => ?_)); simp -implicitDefEqProofs only [Qd, Qb, Qg, OpW, aop, undef, AS.ev, Qc, Qq, Qr, QF, Qk, QD, QlK, AV.Qk5, QlX, QlY, QC, QA, QI, QlZ, ↓reduceIte, QlQ, QlR, Nat.reduceAdd, Nat.reduceLT, Nat.reduceEqDiff, QlP, Ql2, Ql, QK, QL, aBin, QO, QlD, QlE, QlF, QlI, QlG, QS, X5, Yl, QZ, Ql9, QlL, QlH, beq_true, T.Qk4, ti3, ti9, Xu, XS, XM, T.Qk4, z0, c1, c2, c3']) | (with_reducible (first | refine Qi fun K hK => ?_ | refine Qm ?_ | refine Qn ?_ | refine QB ?_ | refine QH ?_)) | ((with_reducible refine hK _ ?_); clear hK) | (refine Qj rfl ?_; simp only [↓reduceIte]))
    simp only [QN, Qp, Qu, upd, ↓reduceIte, QlJ, QlN]; first | refine Qe (htake _ _) (.keep (.v _)) ⟨rfl, rfl⟩ | refine Qe List.take_length (.keep (.v _)) ⟨rfl, rfl⟩
  | true =>
    have c3' : (t.name.toList == ({ data := #[] } : ByteArray).toList) = true := c3
    cases hl : t.args with
    | nil =>
      have c4 : ((0 : Int) == 0) = true := rfl
      have R : t.Qk7 = true := by
        rw [T.Qk8, if_pos k0]; simp [e1, c2, c3, hl]
      rw [R]
      refine Qh Tryz.func169 rfl Tryz.call169 Tryz.ntmps169 (congrArg Array.toList Tryz.results169) (by simp) ?_
      repeat (first | (((with_reducible refine Qa fun K E hK hE => ?_)); simp -implicitDefEqProofs only [Qd, Qb, Qg, OpW, aop, undef, AS.ev, Qc, Qq, Qr, QF, Qk, QD, QlK, AV.Qk5, QlX, QlY, QC, QA, QI, QlZ, ↓reduceIte, QlQ, QlR, Nat.reduceAdd, Nat.reduceLT, Nat.reduceEqDiff, QlP, Ql2, Ql, QK, QL, aBin, aLen, QO, QlD, QlE, QlF, QlI, QlG, QS, X5, Yl, QZ, goInt, Ql9, QlL, Qmp, T.Qk4, ti3, ti9, ti44, un44, Xu, XS, XM, XN, T.Qk4, z0, c1, c2, c3', hl, Qcw]) | (with_reducible (first | refine Qi fun K hK => ?_ | refine Qm ?_ | refine Qn ?_ | refine QB ?_ | refine QH ?_)) | ((with_reducible refine hK _ ?_); clear hK) | (refine Qj rfl ?_; simp only [↓reduceIte]))
      simp only [QN, Qp, Qu, upd, ↓reduceIte, QlJ, QlN]; first | refine Qe (htake _ _) (.keep (.v _)) ⟨rfl, rfl⟩ | refine Qe List.take_length (.keep (.v _)) ⟨rfl, rfl⟩
    | cons a l =>
      have c4 : (((l.length + 1 : Nat) : Int) == 0) = false := by simp; omega
      have R : t.Qk7 = false := by
        rw [T.Qk8, if_pos k0]; simp [e1, c2, c3, hl]
      rw [R]
      refine Qh Tryz.func169 rfl Tryz.call169 Tryz.ntmps169 (congrArg Array.toList Tryz.results169) (by simp) ?_
      repeat (first | (((with_reducible refine Qa fun K E hK hE => ?_)); simp -implicitDefEqProofs only [Qd, Qb, Qg, OpW, aop, undef, AS.ev, Qc, Qq, Qr, QF, Qk, QD, QlK, AV.Qk5, QlX, QlY, QC, QA, QI, QlZ, ↓reduceIte, QlQ, QlR, Nat.reduceAdd, Nat.reduceLT, Nat.reduceEqDiff, QlP, Ql2, Ql, QK, QL, aBin, aLen, QO, QlD, QlE, QlF, QlI, QlG, QS, X5, Yl, QZ, goInt, Ql9, QlL, T.Qk4, QE, ti3, ti9, ti44, un44, Xu, XS, XM, XN, T.Qk4, z0, c1, c2, c3', hl, QE, QlQ, c4]) | (with_reducible (first | refine Qi fun K hK => ?_ | refine Qm ?_ | refine Qn ?_ | refine QB ?_ | refine QH ?_)) | ((with_reducible refine hK _ ?_); clear hK) | (refine Qj rfl ?_; simp only [↓reduceIte]))
      simp only [QN, Qp, Qu, upd, ↓reduceIte, QlJ, QlN]; first | refine Qe (htake _ _) (.keep (.v _)) ⟨rfl, rfl⟩ | refine Qe List.take_length (.keep (.v _)) ⟨rfl, rfl⟩
theorem QjU (t : T) (k1 : t.kind = 1) : Pure Tryz.prog 169 [t.av] (.b t.Qk7) := by
  intro h
  have k0 : ¬ t.kind = 0 := by omega
  have z0 : (t.kind == 0) = false := by simp [k1]
  have z1 : (t.kind == 1) = true := by simp [k1]
  by_cases c1 : t.int ≥ 0
  rotate_left
  · have e1 : ¬ 0 ≤ t.int := by omega
    have R : t.Qk7 = false := by
      rw [T.Qk8, if_neg k0, if_pos k1]; simp [e1]
    rw [R]
    refine Qh Tryz.func169 rfl Tryz.call169 Tryz.ntmps169 (congrArg Array.toList Tryz.results169) (by simp) ?_
    repeat (first | (((with_reducible refine Qa fun K E hK hE => ?_)); simp -implicitDefEqProofs only [Qd, Qb, Qg, OpW, aop, undef, AS.ev, Qc, Qq, Qr, Qk, QD, QlK, AV.Qk5, QlX, QlY, QC, QA, QI, QlZ, ↓reduceIte, QlQ, QlR, Nat.reduceAdd, Nat.reduceLT, Nat.reduceEqDiff, QlP, Ql2, Ql, QK, QL, aBin, QO, QlD, QlE, QlF, QlI, QlG, QS, Yl, Qma, QlH, beq_true, T.Qk4, ti3, Xu, XS, T.Qk4, z0, z1, c1]) | (with_reducible (first | refine Qi fun K hK => ?_ | refine Qm ?_ | refine Qn ?_ | refine QB ?_ | refine QH ?_)) | ((with_reducible refine hK _ ?_); clear hK) | (refine Qj rfl ?_; simp only [↓reduceIte, QlH]))
    simp only [QN, Qp, Qu, upd, ↓reduceIte, QlJ, QlN]; first | refine Qe (htake _ _) (.keep (.v _)) ⟨rfl, rfl⟩ | refine Qe List.take_length (.keep (.v _)) ⟨rfl, rfl⟩
  have e1 : 0 ≤ t.int := by omega
  by_cases c2 : t.int ≤ 1048576
  rotate_left
  · skip
    have R : t.Qk7 = false := by
      rw [T.Qk8, if_neg k0, if_pos k1]; simp [e1, c2]
    rw [R]
    refine Qh Tryz.func169 rfl Tryz.call169 Tryz.ntmps169 (congrArg Array.toList Tryz.results169) (by simp) ?_
    repeat (first | (((with_reducible refine Qa fun K E hK hE => ?_)); simp -implicitDefEqProofs only [Qd, Qb, Qg, OpW, aop, undef, AS.ev, Qc, Qq, Qr, Qk, QD, QlK, AV.Qk5, QlX, QlY, QC, QA, QI, QlZ, ↓reduceIte, QlQ, QlR, Nat.reduceAdd, Nat.reduceLT, Nat.reduceEqDiff, QlP, Ql2, Ql, QK, QL, aBin, QO, QlD, QlE, QlF, QlI, QlG, QS, X5, Yl, Ql9, Qma, QlL, QlH, beq_true, T.Qk4, ti3, Xu, XS, T.Qk4, z0, z1, c1, c2]) | (with_reducible (first | refine Qi fun K hK => ?_ | refine Qm ?_ | refine Qn ?_ | refine QB ?_ | refine QH ?_)) | ((with_reducible refine hK _ ?_); clear hK) | (refine Qj rfl ?_; simp only [↓reduceIte, QlH]))
    simp only [QN, Qp, Qu, upd, ↓reduceIte, QlJ, QlN]; first | refine Qe (htake _ _) (.keep (.v _)) ⟨rfl, rfl⟩ | refine Qe List.take_length (.keep (.v _)) ⟨rfl, rfl⟩
  cases c3 : Yr t.name with
  | false =>
    have c3' : (t.name.toList == ({ data := #[] } : ByteArray).toList) = false := c3
    have R : t.Qk7 = false := by
      rw [T.Qk8, if_neg k0, if_pos k1]; simp [e1, c2, c3]
    rw [R]
    refine Qh Tryz.func169 rfl Tryz.call169 Tryz.ntmps169 (congrArg Array.toList Tryz.results169) (by simp) ?_
    repeat (first | (((with_reducible refine Qa fun K E hK hE => ?_)); simp -implicitDefEqProofs only [Qd, Qb, Qg, OpW, aop, undef, AS.ev, Qc, Qq, Qr, QF, Qk, QD, QlK, AV.Qk5, QlX, QlY, QC, QA, QI, QlZ, ↓reduceIte, QlQ, QlR, Nat.reduceAdd, Nat.reduceLT, Nat.reduceEqDiff, QlP, Ql2, Ql, QK, QL, aBin, QO, QlD, QlE, QlF, QlI, QlG, QS, X5, Yl, QZ, Ql9, QlL, QlH, beq_true, T.Qk4, ti3, ti9, Xu, XS, XM, T.Qk4, z0, z1, c1, c2, c3']) | (with_reducible (first | refine Qi fun K hK => ?_ | refine Qm ?_ | refine Qn ?_ | refine QB ?_ | refine QH ?_)) | ((with_reducible refine hK _ ?_); clear hK) | (refine Qj rfl ?_; simp only [↓reduceIte, QlH]))
    simp only [QN, Qp, Qu, upd, ↓reduceIte, QlJ, QlN]; first | refine Qe (htake _ _) (.keep (.v _)) ⟨rfl, rfl⟩ | refine Qe List.take_length (.keep (.v _)) ⟨rfl, rfl⟩
  | true =>
    have c3' : (t.name.toList == ({ data := #[] } : ByteArray).toList) = true := c3
    cases hl : t.args with
    | nil =>
      have c4 : ((0 : Int) == 0) = true := rfl
      have R : t.Qk7 = true := by
        rw [T.Qk8, if_neg k0, if_pos k1]; simp [e1, c2, c3, hl]
      rw [R]
      refine Qh Tryz.func169 rfl Tryz.call169 Tryz.ntmps169 (congrArg Array.toList Tryz.results169) (by simp) ?_
      repeat (first | (((with_reducible refine Qa fun K E hK hE => ?_)); simp -implicitDefEqProofs only [Qd, Qb, Qg, OpW, aop, undef, AS.ev, Qc, Qq, Qr, QF, Qk, QD, QlK, AV.Qk5, QlX, QlY, QC, QA, QI, QlZ, ↓reduceIte, QlQ, QlR, Nat.reduceAdd, Nat.reduceLT, Nat.reduceEqDiff, QlP, Ql2, Ql, QK, QL, aBin, aLen, QO, QlD, QlE, QlF, QlI, QlG, QS, X5, Yl, QZ, goInt, Ql9, QlL, Qmp, T.Qk4, ti3, ti9, ti44, un44, Xu, XS, XM, XN, T.Qk4, z0, z1, c1, c2, c3', hl, Qcw]) | (with_reducible (first | refine Qi fun K hK => ?_ | refine Qm ?_ | refine Qn ?_ | refine QB ?_ | refine QH ?_)) | ((with_reducible refine hK _ ?_); clear hK) | (refine Qj rfl ?_; simp only [↓reduceIte, QlH]))
      simp only [QN, Qp, Qu, upd, ↓reduceIte, QlJ, QlN]; first | refine Qe (htake _ _) (.keep (.v _)) ⟨rfl, rfl⟩ | refine Qe List.take_length (.keep (.v _)) ⟨rfl, rfl⟩
    | cons a l =>
      have c4 : (((l.length + 1 : Nat) : Int) == 0) = false := by simp; omega
      have R : t.Qk7 = false := by
        rw [T.Qk8, if_neg k0, if_pos k1]; simp [e1, c2, c3, hl]
      rw [R]
      refine Qh Tryz.func169 rfl Tryz.call169 Tryz.ntmps169 (congrArg Array.toList Tryz.results169) (by simp) ?_
      repeat (first | (((with_reducible refine Qa fun K E hK hE => ?_)); simp -implicitDefEqProofs only [Qd, Qb, Qg, OpW, aop, undef, AS.ev, Qc, Qq, Qr, QF, Qk, QD, QlK, AV.Qk5, QlX, QlY, QC, QA, QI, QlZ, ↓reduceIte, QlQ, QlR, Nat.reduceAdd, Nat.reduceLT, Nat.reduceEqDiff, QlP, Ql2, Ql, QK, QL, aBin, aLen, QO, QlD, QlE, QlF, QlI, QlG, QS, X5, Yl, QZ, goInt, Ql9, QlL, T.Qk4, QE, ti3, ti9, ti44, un44, Xu, XS, XM, XN, T.Qk4, z0, z1, c1, c2, c3', hl, QE, QlQ, c4]) | (with_reducible (first | refine Qi fun K hK => ?_ | refine Qm ?_ | refine Qn ?_ | refine QB ?_ | refine QH ?_)) | ((with_reducible refine hK _ ?_); clear hK) | (refine Qj rfl ?_; simp only [↓reduceIte, QlH]))
      simp only [QN, Qp, Qu, upd, ↓reduceIte, QlJ, QlN]; first | refine Qe (htake _ _) (.keep (.v _)) ⟨rfl, rfl⟩ | refine Qe List.take_length (.keep (.v _)) ⟨rfl, rfl⟩
theorem Qh0 (t : T) (k0 : ¬ t.kind = 0) (k1 : ¬ t.kind = 1) (k2 : ¬ t.kind = 2) : Pure Tryz.prog 169 [t.av] (.b t.Qk7) := by
  intro h
  have z0 : (t.kind == 0) = false := by simp [k0]
  have z1 : (t.kind == 1) = false := by simp [k1]
  have z2 : (t.kind == 2) = false := by simp [k2]
  have R : t.Qk7 = false := by
    rw [T.Qk8, if_neg k0, if_neg k1, if_neg k2]
  rw [R]
  refine Qh Tryz.func169 rfl Tryz.call169 Tryz.ntmps169 (congrArg Array.toList Tryz.results169) (by simp) ?_
  repeat (first | (((with_reducible refine Qa fun K E hK hE => ?_)); simp -implicitDefEqProofs only [Qd, Qb, Qg, OpW, aop, undef, AS.ev, Qc, Qq, Qr, Qk, QD, QlK, AV.Qk5, QlX, QlY, QC, QA, QI, QlZ, ↓reduceIte, QlQ, QlR, Nat.reduceAdd, Nat.reduceLT, Nat.reduceEqDiff, QlP, Ql2, Ql, QK, QL, aBin, QO, QlD, QlF, QS, T.Qk4, ti3, Xu, T.Qk4, z0, z1, z2]) | (with_reducible (first | refine Qi fun K hK => ?_ | refine Qm ?_ | refine Qn ?_ | refine Qv ?_ | refine Qf ?_ | refine Qw ?_)) | ((with_reducible refine hK _ ?_); clear hK) | (refine Qj rfl ?_; simp only [↓reduceIte, QlH]))
  simp only [QN, Qp, Qu, upd, ↓reduceIte, QlJ, QlN]; first | refine Qe (htake _ _) (.keep (.v _)) ⟨rfl, rfl⟩ | refine Qe List.take_length (.keep (.v _)) ⟨rfl, rfl⟩
theorem Qka (n : Nat) (hb : n ≤ 1000000) (ih : ∀ t : T, t.nds ≤ n → t.ok → Pure Tryz.prog 169 [t.av] (.b t.Qk7)) (t : T) (hn : t.nds ≤ n + 1) (ho : t.ok) (k2 : t.kind = 2) :
    Pure Tryz.prog 169 [t.av] (.b t.Qk7) := by
  intro h
  have k0 : ¬ t.kind = 0 := by omega
  have k1 : ¬ t.kind = 1 := by omega
  have z0 : (t.kind == 0) = false := by simp [k2]
  have z1 : (t.kind == 1) = false := by simp [k2]
  have z2 : (t.kind == 2) = true := by simp [k2]
  obtain ⟨o1, o2, o3, o4⟩ := (T.ok_eq t).1 ho
  have hnd := T.Qlc t
  have hll := XK t.args
  have co := QaN t.name
  have cr : Pure Tryz.prog 44 [.v (.string t.name)] (.b (Yv t.name)) := ZW t.name (by simp only [maxLen]; omega)
  refine Qh Tryz.func169 rfl Tryz.call169 Tryz.ntmps169 (congrArg Array.toList Tryz.results169) (by simp) ?_
  iterate 15 (try (first | (((with_reducible refine Qa fun K E hK hE => ?_)); simp -implicitDefEqProofs only [Qd, Qb, Qg, OpW, aop, undef, AS.ev, Qc, Qq, Qr, Qk, QD, QlK, AV.Qk5, QlX, QlY, QC, QA, QI, QlZ, ↓reduceIte, QlQ, QlR, Nat.reduceAdd, Nat.reduceLT, Nat.reduceEqDiff, QlP, Ql2, Ql, QK, QL, aBin, QO, QlD, QlF, QS, T.Qk4, ti3, Xu, T.Qk4, z0, z1, z2]) | (with_reducible (first | refine Qi fun K hK => ?_ | refine Qm ?_)) | ((with_reducible refine hK _ ?_); clear hK) | (refine Qj rfl ?_; simp only [↓reduceIte, QlH])))
  refine Xv (fun s => s.tm 3 = .b (opB t.name && decide (t.args.length = 2)) ∧ s.tm 1 = .ptr h.length 0 0 ∧ s.h = h ++ [.cells 69 4 [t.av]]) ?_ ?_
  rotate_left
  · cases ho : opB t.name with
    | false =>
      rw [ho] at co
      repeat (first | ((first | (with_reducible (first | refine Qo fun K E hK hE => ?_ | refine Qs co ?_))); simp -implicitDefEqProofs only [Qd, Qb, Qg, OpW, QR, aop, undef, AS.ev, Qc, Qr, Qk, ↓reduceIte, Nat.reduceLT, Nat.reduceEqDiff, QlP, Ql, QK, QL, QO, QlD, QlE, QlF, QlI, QlG, QlS, QlW, QlH, beq_true, T.Qk4, ti9, XM, T.Qk4]) | (with_reducible refine Qf ?_) | ((with_reducible refine hK _ ?_); clear hK))
      exact ⟨rfl, rfl, rfl⟩
    | true =>
      rw [ho] at co
      by_cases hl2 : t.args.length = 2
      · have h2 : ((t.args.length : Int) == 2) = true := by rw [hl2]; rfl
        rw [decide_eq_true hl2]
        repeat (first | ((first | (with_reducible (first | refine Qo fun K E hK hE => ?_ | refine Qs co ?_))); simp -implicitDefEqProofs only [Qd, Qb, Qg, OpW, QR, aop, AS.ev, Qc, Qq, Qk, ↓reduceIte, Nat.reduceLT, Nat.reduceEqDiff, QlP, Ql, QK, QL, aBin, aLen, QO, QlD, QlE, QlF, QlI, QlG, QlS, QlW, QS, goInt, QlL, T.Qk4, QE, ti9, ti44, un44, XM, XN, T.Qk4, QE, h2]) | (with_reducible refine Qf ?_) | ((with_reducible refine hK _ ?_); clear hK))
        exact ⟨rfl, rfl, rfl⟩
      · have h2 : ((t.args.length : Int) == 2) = false := by rw [beq_eq_false_iff_ne]; omega
        rw [decide_eq_false hl2]
        repeat (first | ((first | (with_reducible (first | refine Qo fun K E hK hE => ?_ | refine Qs co ?_))); simp -implicitDefEqProofs only [Qd, Qb, Qg, OpW, QR, aop, AS.ev, Qc, Qq, Qk, ↓reduceIte, Nat.reduceLT, Nat.reduceEqDiff, QlP, Ql, QK, QL, aBin, aLen, QO, QlD, QlE, QlF, QlI, QlG, QlS, QlW, QS, goInt, QlL, T.Qk4, QE, ti9, ti44, un44, XM, XN, T.Qk4, QE, h2]) | (with_reducible refine Qf ?_) | ((with_reducible refine hK _ ?_); clear hK))
        exact ⟨rfl, rfl, rfl⟩
  rintro ⟨tm, hp⟩ ⟨t3, t1, hh⟩
  dsimp only at t3 t1 hh
  subst hh
  obtain ⟨p, ep⟩ : ∃ p, p = (opB t.name && decide (t.args.length = 2)) := ⟨_, rfl⟩
  rw [← ep] at t3
  have RR : t.Qk7 = if t.int ≠ 0 ∨ 6 < t.args.length then false else if (!Yv t.name && !p) = true then false else YT t.args := by rw [T.Qk8, if_neg k0, if_neg k1, if_pos k2, ← ep]
  refine Xv (fun s => t.Qk7 = YT t.args ∧ t.args.length ≤ 6 ∧ s.tm 1 = .ptr h.length 0 0 ∧ s.h = h ++ [.cells 69 4 [t.av]]) ?_ ?_
  rotate_left
  · by_cases i0 : t.int = 0
    rotate_left
    · have y0 : (t.int != 0) = true := by simp [i0]
      have R : t.Qk7 = false := by rw [RR, if_pos (.inl i0)]
      rw [R]
      repeat (first | (((with_reducible refine Qa fun K E hK hE => ?_)); simp -implicitDefEqProofs only [Qd, Qb, Qg, OpW, aop, undef, AS.ev, Qc, Qq, Qr, Qk, Ql0, ↓reduceIte, Nat.reduceLT, Nat.reduceEqDiff, QlP, Ql, QK, QL, aBin, QO, QlD, QlE, QlF, QlI, QlG, XA, beq_false, T.Qk4, ti3, XS, T.Qk4, t1, y0]) | (with_reducible (first | refine Qn ?_ | refine QB ?_ | refine QH ?_)) | ((with_reducible refine hK _ ?_); clear hK) | (refine Qj rfl ?_; simp only [↓reduceIte]))
      simp only [QN, Qp, Qu, upd, ↓reduceIte, QlJ, QlN]; first | refine Qe (htake _ _) (.keep (.v _)) ⟨rfl, rfl⟩ | refine Qe List.take_length (.keep (.v _)) ⟨rfl, rfl⟩
    have y0 : (t.int != 0) = false := by simp [i0]
    cases p with
    | true =>
      have hl2 : t.args.length = 2 := by
        have := ep.symm; rw [Bool.and_eq_true, decide_eq_true_eq] at this; exact this.2
      have R : t.Qk7 = YT t.args := by rw [RR, if_neg (by omega), if_neg (by simp)]
      repeat (first | (((with_reducible refine Qa fun K E hK hE => ?_)); simp -implicitDefEqProofs only [Qd, Qb, Qg, OpW, aop, undef, AS.ev, Qc, Qq, Qr, Qk, Ql0, ↓reduceIte, Nat.reduceLT, Nat.reduceEqDiff, QlP, Ql, QK, QL, aBin, QO, QlD, QlE, QlF, QlI, QlG, XA, Xb, QlL, QlH, beq_true, T.Qk4, ti3, XS, T.Qk4, t1, t3, y0]) | (with_reducible (first | refine Qv ?_ | refine Qf ?_)) | ((with_reducible refine hK _ ?_); clear hK) | (refine Qj rfl ?_; simp only [↓reduceIte, QlH]))
      exact ⟨R, by omega, t1, rfl⟩
    | false =>
      cases hr : Yv t.name with
      | false =>
        rw [hr] at cr
        have R : t.Qk7 = false := by rw [RR]; split; rfl; rw [if_pos (by rw [hr]; rfl)]
        rw [R]
        repeat (first | ((first | (with_reducible (first | refine Qa fun K E hK hE => ?_ | refine Qs cr ?_))); simp -implicitDefEqProofs only [Qd, Qb, Qg, OpW, QR, aop, undef, AS.ev, Qc, Qq, Qr, Qk, Ql0, Ql1, ↓reduceIte, Nat.reduceLT, Nat.reduceEqDiff, QlP, Ql, QK, QL, aBin, QO, QlD, QlE, QlF, QlI, QlG, QlS, QlW, XA, Xb, QlL, QlH, beq_false, T.Qk4, ti3, ti9, XS, XM, T.Qk4, t1, t3, y0]) | (with_reducible (first | refine Qn ?_ | refine QB ?_ | refine QH ?_)) | ((with_reducible refine hK _ ?_); clear hK) | (refine Qj rfl ?_; simp only [↓reduceIte]))
        simp only [QN, Qp, Qu, upd, ↓reduceIte, QlJ, QlN]; first | refine Qe (htake _ _) (.keep (.v _)) ⟨rfl, rfl⟩ | refine Qe List.take_length (.keep (.v _)) ⟨rfl, rfl⟩
      | true =>
        rw [hr] at cr
        by_cases a6 : t.args.length > 6
        · have y6 : (t.args.length : Int) > 6 := by omega
          have R : t.Qk7 = false := by rw [RR, if_pos (.inr a6)]
          rw [R]
          repeat (first | ((first | (with_reducible (first | refine Qa fun K E hK hE => ?_ | refine Qs cr ?_))); simp -implicitDefEqProofs only [Qd, Qb, Qg, OpW, QR, aop, AS.ev, Qc, Qq, Qr, Qk, Ql0, Ql1, ↓reduceIte, Nat.reduceLT, Nat.reduceEqDiff, QlP, Ql, QK, QL, aBin, aLen, QO, QlD, QlE, QlF, QlI, QlG, QlS, QlW, XA, Q1, Xb, goInt, Ql9, QlL, QlH, T.Qk4, QE, ti3, ti9, ti44, un44, XS, XM, XN, T.Qk4, t1, t3, y0, y6, QE]) | (with_reducible (first | refine Qn ?_ | refine QB ?_ | refine QH ?_)) | ((with_reducible refine hK _ ?_); clear hK) | (refine Qj rfl ?_; simp only [↓reduceIte]))
          simp only [QN, Qp, Qu, upd, ↓reduceIte, QlJ, QlN]; first | refine Qe (htake _ _) (.keep (.v _)) ⟨rfl, rfl⟩ | refine Qe List.take_length (.keep (.v _)) ⟨rfl, rfl⟩
        · have y6 : ¬ (t.args.length : Int) > 6 := by omega
          have R : t.Qk7 = YT t.args := by rw [RR, if_neg (by omega), if_neg (by rw [hr]; simp)]
          repeat (first | ((first | (with_reducible (first | refine Qa fun K E hK hE => ?_ | refine Qs cr ?_))); simp -implicitDefEqProofs only [Qd, Qb, Qg, OpW, QR, aop, AS.ev, Qc, Qq, Qk, Ql0, Ql1, ↓reduceIte, Nat.reduceLT, Nat.reduceEqDiff, QlP, Ql, QK, QL, aBin, aLen, QO, QlD, QlE, QlF, QlI, QlG, QlS, QlW, XA, Q1, Xb, goInt, Qma, QlL, QlH, T.Qk4, QE, ti3, ti9, ti44, un44, XS, XM, XN, T.Qk4, t1, t3, y0, y6, QE]) | (with_reducible (first | refine Qv ?_ | refine Qf ?_)) | ((with_reducible refine hK _ ?_); clear hK) | (refine Qj rfl ?_; simp only [↓reduceIte, QlH]))
          exact ⟨R, by omega, t1, rfl⟩
  rintro ⟨tm, hp⟩ ⟨R, hl6, t1, hh⟩
  dsimp only at t1 hh
  subst hh
  rw [R]
  repeat (first | (((with_reducible refine Qa fun K E hK hE => ?_)); simp -implicitDefEqProofs only [Qd, Qb, Qg, OpW, aop, AS.ev, Qc, Qq, Nat.reduceLT]) | (with_reducible (first | refine Qi fun K hK => ?_ | refine Qm ?_)) | ((with_reducible refine hK _ ?_); clear hK))
  obtain ⟨I, hI⟩ : ∃ I : Nat → AS → Prop, I = fun m' s => ∃ (k : Nat), m' = t.args.length - k ∧ k ≤ t.args.length ∧ YT t.args = YT (t.args.drop k) ∧ s.tm 1 = .ptr h.length 0 0 ∧ s.tm 4 = .i k ∧ s.h = h ++ [AB.cells 69 4 [t.av]] := ⟨_, rfl⟩; refine Q9 I ?_ (m := t.args.length) ?_
  · intro m' s hs; rw [hI] at hs; obtain ⟨tm, hp⟩ := s; dsimp only at hs; obtain ⟨k, rfl, hk, he, t1, t4, rfl⟩ := hs
    by_cases hlt : k < t.args.length
    · have hg := Y0 hlt
      have z9 : (k : Int) < t.args.length := by omega
      have c := ih t.args[k] (by have := ZK hlt; omega) (Qdk hlt o4)
      rw [QgW hlt] at he
      cases hr : (t.args[k]).Qk7 with
      | true =>
        rw [hr] at c he
        repeat (first | ((first | (with_reducible (first | refine Qa fun K E hK hE => ?_ | refine Qo fun K E hK hE => ?_ | refine Qs c ?_))); simp -implicitDefEqProofs only [Qd, Qb, Qg, OpW, QR, aop, AS.ev, Qc, Qq, Qk, Ql0, ↓reduceIte, QlQ, QlR, Nat.reduceAdd, Nat.reduceLT, Nat.reduceEqDiff, QlP, Qmb, Ql, QK, QL, QJ, aBin, aLen, QO, QlD, QlE, QlF, QlS, QlW, QW, Xf, Xb, goInt, Ql9, Qmg, Qmf, T.Qk4, T.Qk6, QE, ti44, ei44, un44, ti69, XN, T.Qk6, T.Qk4, t1, t4, z9, hg, QE]) | (with_reducible (first | refine Qi fun K hK => ?_ | refine Qm ?_ | refine Qv ?_ | refine Qf ?_ | refine Qw ?_)) | ((with_reducible refine hK _ ?_); clear hK) | (refine Qj rfl ?_; simp only [↓reduceIte, QlH]))
        refine XD.mk (m' := t.args.length - (k + 1)) (by omega) ?_
        rw [hI]
        refine ⟨k + 1, rfl, hlt, by rw [he]; rfl, t1, ?_, rfl⟩
        simp only [upd, ↓reduceIte]
        rw [Xe (by omega)]
      | false =>
        rw [hr] at c he
        repeat (first | ((first | (with_reducible (first | refine Qa fun K E hK hE => ?_ | refine Qs c ?_))); simp -implicitDefEqProofs only [Qd, Qb, Qg, OpW, QR, aop, AS.ev, Qc, Qr, Qk, Ql1, ↓reduceIte, QlQ, QlR, Nat.reduceAdd, Nat.reduceLT, Nat.reduceEqDiff, QlP, Qmb, Ql, QK, QL, QJ, aBin, aLen, QO, QlD, QlE, QlF, QlS, QlW, QW, Xb, goInt, Ql9, Qmg, Qmf, T.Qk4, T.Qk6, QE, ti44, ei44, un44, ti69, XN, T.Qk6, T.Qk4, t1, t4, z9, hg, QE]) | (with_reducible (first | refine Qi fun K hK => ?_ | refine Qm ?_ | refine Qn ?_ | refine Qv ?_ | refine Qf ?_ | refine QB ?_ | refine QH ?_)) | ((with_reducible refine hK _ ?_); clear hK) | (refine Qj rfl ?_; simp only [↓reduceIte]))
        simp only [QN, Qp, Qu, upd, ↓reduceIte, QlJ, QlN]; first | refine Qe (htake _ _) (.keep (.v _)) ⟨by rw [he]; rfl, rfl⟩ | refine Qe List.take_length (.keep (.v _)) ⟨by rw [he]; rfl, rfl⟩
    · have z9 : ¬ (k : Int) < t.args.length := by omega
      have hkl : k = t.args.length := by omega
      rw [hkl, List.drop_length] at he
      repeat (first | (((with_reducible refine Qa fun K E hK hE => ?_)); simp -implicitDefEqProofs only [Qd, Qb, Qg, OpW, aop, AS.ev, Qc, Qr, Qk, ↓reduceIte, Nat.reduceLT, Nat.reduceEqDiff, QlP, Ql, QK, QL, aBin, aLen, QO, QlD, QlE, QlF, QW, goInt, Qma, T.Qk4, QE, ti44, un44, XN, T.Qk4, t1, t4, z9, QE]) | (with_reducible (first | refine Qi fun K hK => ?_ | refine Qn ?_ | refine Q2 ?_ | refine Qf ?_ | refine QB ?_ | refine QU ?_ | refine QH ?_ | refine QV ?_)) | ((with_reducible refine hK _ ?_); clear hK) | (clear hK; (with_reducible refine hK _ ?_); clear hK) | (refine Qj rfl ?_; simp only [↓reduceIte, QlH]))
      simp only [QN, Qp, Qu, upd, ↓reduceIte, QlJ, QlN]; first | refine Qe (htake _ _) (.keep (.v _)) ⟨by rw [he]; rfl, rfl⟩ | refine Qe List.take_length (.keep (.v _)) ⟨by rw [he]; rfl, rfl⟩
  · rw [hI]
    exact ⟨0, by omega, Nat.zero_le _, by rw [List.drop_zero], t1, rfl, rfl⟩
theorem QfZ (n : Nat) : n ≤ 1000000 → ∀ t : T, t.nds ≤ n → t.ok → Pure Tryz.prog 169 [t.av] (.b t.Qk7) := by
  induction n with
  | zero => intro _ t hn _; have := T.Qlc t; omega
  | succ n ih =>
    intro hb t hn ho
    by_cases k0 : t.kind = 0
    · exact Qkb t k0
    by_cases k1 : t.kind = 1
    · exact QjU t k1
    by_cases k2 : t.kind = 2
    · exact Qka n (by omega) (ih (by omega)) t hn ho k2
    · exact Qh0 t k0 k1 k2
theorem Qd8 (t : T) (hn : t.nds ≤ 1000000) (ho : t.ok) : Pure Tryz.prog 151 [t.av] (.b (t.run 200 20).1) := by
  intro h
  have hs := T.Qla t
  have c1 := QfZ 1000000 (Nat.le_refl _) t hn ho
  have c2 := QcE 1000000 t (by omega) (Nat.le_refl _)
  have c3 := Qe9 1000000 t (by omega) (Nat.le_refl _)
  rw [T.Qlp]
  cases hf : t.Qk7 with
  | false =>
    rw [hf] at c1
    refine Qh Tryz.func151 rfl Tryz.call151 Tryz.ntmps151 (congrArg Array.toList Tryz.results151) (by simp) ?_
    repeat (first | ((first | (with_reducible (first | refine Qa fun K E hK hE => ?_ | refine Qs c1 ?_))); simp -implicitDefEqProofs only [Qd, Qb, Qg, OpW, QR, aop, undef, AS.ev, Qc, Qr, Qk, QD, QlK, AV.Qk5, QlX, QlY, QC, QA, QI, QlZ, ↓reduceIte, QlQ, QlR, Nat.reduceAdd, Nat.reduceLT, Nat.reduceEqDiff, QlP, Qmb, QK, QL, QO, QlD, QlE, QlF, QlI, QlG, QlS, QlW, QlH, beq_true, T.Qk4, T.Qk6, ti69, T.Qk6, T.Qk4]) | (with_reducible refine Qn ?_) | ((with_reducible refine hK _ ?_); clear hK))
    simp only [QN, Qp, Qu, upd, ↓reduceIte, QlJ, QlN]; first | refine Qe (htake _ _) (.keep (.v _)) ⟨rfl, rfl⟩ | refine Qe List.take_length (.keep (.v _)) ⟨rfl, rfl⟩
  | true =>
    rw [hf] at c1
    by_cases q1 : t.size ≤ 200
    · have z1 : (t.size : Int) ≤ 200 := by omega
      by_cases q2 : t.dep ≤ 20
      · have z2 : (t.dep : Int) ≤ 20 := by omega
        rw [decide_eq_true q1, decide_eq_true q2]
        refine Qh Tryz.func151 rfl Tryz.call151 Tryz.ntmps151 (congrArg Array.toList Tryz.results151) (by simp) ?_
        repeat (first | ((first | (with_reducible (first | refine Qa fun K E hK hE => ?_ | refine Qs c1 ?_ | refine Qs c2 ?_ | refine Qs c3 ?_))); simp -implicitDefEqProofs only [Qd, Qb, Qg, OpW, QR, aop, undef, AS.ev, Qc, Qq, Qr, Qk, QD, QlK, AV.Qk5, QlX, QlY, QC, QA, QI, QlZ, ↓reduceIte, QlQ, QlR, Nat.reduceAdd, Nat.reduceLT, Nat.reduceEqDiff, QlP, Qmb, QK, QL, aBin, QO, QlD, QlE, QlF, QlI, QlG, QlS, QlW, X5, Ql9, QlL, T.Qk4, T.Qk6, ti69, T.Qk6, T.Qk4, z1, z2]) | (with_reducible refine Qn ?_) | ((with_reducible refine hK _ ?_); clear hK))
        simp only [QN, Qp, Qu, upd, ↓reduceIte, QlJ, QlN]; first | refine Qe (htake _ _) (.keep (.v _)) ⟨rfl, rfl⟩ | refine Qe List.take_length (.keep (.v _)) ⟨rfl, rfl⟩
      · have z2 : ¬ (t.dep : Int) ≤ 20 := by omega
        rw [decide_eq_true q1, decide_eq_false q2]
        refine Qh Tryz.func151 rfl Tryz.call151 Tryz.ntmps151 (congrArg Array.toList Tryz.results151) (by simp) ?_
        repeat (first | ((first | (with_reducible (first | refine Qa fun K E hK hE => ?_ | refine Qs c1 ?_ | refine Qs c2 ?_ | refine Qs c3 ?_))); simp -implicitDefEqProofs only [Qd, Qb, Qg, OpW, QR, aop, undef, AS.ev, Qc, Qq, Qr, Qk, QD, QlK, AV.Qk5, QlX, QlY, QC, QA, QI, QlZ, ↓reduceIte, QlQ, QlR, Nat.reduceAdd, Nat.reduceLT, Nat.reduceEqDiff, QlP, Qmb, QK, QL, aBin, QO, QlD, QlE, QlF, QlI, QlG, QlS, QlW, X5, Ql9, Qma, QlL, T.Qk4, T.Qk6, ti69, T.Qk6, T.Qk4, z1, z2]) | (with_reducible refine Qn ?_) | ((with_reducible refine hK _ ?_); clear hK))
        simp only [QN, Qp, Qu, upd, ↓reduceIte, QlJ, QlN]; first | refine Qe (htake _ _) (.keep (.v _)) ⟨rfl, rfl⟩ | refine Qe List.take_length (.keep (.v _)) ⟨rfl, rfl⟩
    · have z1 : ¬ (t.size : Int) ≤ 200 := by omega
      rw [decide_eq_false q1]
      refine Qh Tryz.func151 rfl Tryz.call151 Tryz.ntmps151 (congrArg Array.toList Tryz.results151) (by simp) ?_
      repeat (first | ((first | (with_reducible (first | refine Qa fun K E hK hE => ?_ | refine Qs c1 ?_ | refine Qs c2 ?_))); simp -implicitDefEqProofs only [Qd, Qb, Qg, OpW, QR, aop, undef, AS.ev, Qc, Qq, Qr, Qk, QD, QlK, AV.Qk5, QlX, QlY, QC, QA, QI, QlZ, ↓reduceIte, QlQ, QlR, Nat.reduceAdd, Nat.reduceLT, Nat.reduceEqDiff, QlP, Qmb, QK, QL, aBin, QO, QlD, QlE, QlF, QlI, QlG, QlS, QlW, X5, Qma, QlL, QlH, beq_true, T.Qk4, T.Qk6, ti69, T.Qk6, T.Qk4, z1]) | (with_reducible refine Qn ?_) | ((with_reducible refine hK _ ?_); clear hK))
      simp only [QN, Qp, Qu, upd, ↓reduceIte, QlJ, QlN]; first | refine Qe (htake _ _) (.keep (.v _)) ⟨rfl, rfl⟩ | refine Qe List.take_length (.keep (.v _)) ⟨rfl, rfl⟩
theorem Qas (l : List T) (hn : ndsL l ≤ 1000000) (ho : oks l) : Pure Tryz.prog 128 [.sl 4 (avs l) none] (.b (runL l 200 20).1) := by
  intro h
  have hll := XK l
  rw [← Qjm]
  refine Qh Tryz.func128 rfl Tryz.call128 Tryz.ntmps128 (congrArg Array.toList Tryz.results128) (by simp) ?_
  repeat (first | (((with_reducible refine Qa fun K E hK hE => ?_)); simp -implicitDefEqProofs only [Qd, Qb, Qg, OpW, aop, AS.ev, Qc, Qq, Qr, Nat.reduceLT]) | (with_reducible (first | refine Qi fun K hK => ?_ | refine Qm ?_)) | ((with_reducible refine hK _ ?_); clear hK))
  obtain ⟨I, hI⟩ : ∃ I : Nat → AS → Prop, I = fun m' s => ∃ (k n : Nat), m' = l.length - k ∧ k ≤ l.length ∧ n + sizes (l.drop k) ≤ 1000000 ∧ rargs l 0 = rargs (l.drop k) n ∧ s.tm 0 = .sl 4 (avs l) none ∧ s.tm 3 = .i n ∧ s.tm 4 = .i k ∧ s.h = h := ⟨_, rfl⟩; refine Q9 I ?_ (m := l.length) ?_
  · intro m' s hs; rw [hI] at hs; obtain ⟨tm, hp⟩ := s; dsimp only at hs; obtain ⟨k, n, rfl, hk, hs, he, t0, t3, t4, rfl⟩ := hs
    by_cases hlt : k < l.length
    · have hg := Y0 hlt
      have z9 : (k : Int) < l.length := by omega
      have hnk : (l[k]).nds ≤ 1000000 := by have := ZK hlt; omega
      have c := Qd8 l[k] hnk (Qdk hlt ho)
      have c2 := QcE 1000000 l[k] (by have := T.Qla l[k]; omega) (Nat.le_refl _)
      rw [List.drop_eq_getElem_cons hlt, rargs] at he
      rw [List.drop_eq_getElem_cons hlt, sizes] at hs
      have hw : IntKind.i64.wrap ((n : Int) + ((l[k]).size : Nat)) = ((n + (l[k]).size : Nat) : Int) := by rw [Yh (by omega)]; omega
      cases hr : ((l[k]).run 200 20).1 with
      | true =>
        rw [hr] at c he
        repeat (first | ((first | (with_reducible (first | refine Qa fun K E hK hE => ?_ | refine Qo fun K E hK hE => ?_ | refine Qs c ?_ | refine Qs c2 ?_))); simp -implicitDefEqProofs only [Qd, Qb, Qg, OpW, QR, aop, AS.ev, Qc, Qq, Qk, Ql0, ↓reduceIte, QlQ, QlR, Nat.reduceAdd, Nat.reduceLT, Nat.reduceEqDiff, QlP, Qmb, QK, QL, QJ, aBin, aLen, QlF, QlS, QlW, QW, Xf, Xb, goInt, Ql9, Qmg, Qmf, T.Qk4, T.Qk6, QE, ei44, un44, ti69, t0, t3, t4, z9, hg, QE, hw]) | (with_reducible (first | refine Qi fun K hK => ?_ | refine Qm ?_ | refine Qv ?_ | refine Qf ?_ | refine Qw ?_)) | ((with_reducible refine hK _ ?_); clear hK) | (refine Qj rfl ?_; simp only [↓reduceIte, QlH]))
        refine XD.mk (m' := l.length - (k + 1)) (by omega) ?_
        rw [hI]
        refine ⟨k + 1, n + (l[k]).size, rfl, hlt, by omega, by rw [he]; rfl, t0, rfl, ?_, rfl⟩
        simp only [upd, ↓reduceIte]
        rw [Xe (by omega)]
      | false =>
        rw [hr] at c he
        repeat (first | ((first | (with_reducible (first | refine Qa fun K E hK hE => ?_ | refine Qs c ?_))); simp -implicitDefEqProofs only [Qd, Qb, Qg, OpW, QR, aop, AS.ev, Qc, Qr, Qk, Ql1, ↓reduceIte, QlQ, QlR, Nat.reduceAdd, Nat.reduceLT, Nat.reduceEqDiff, QlP, Qmb, QK, QL, QJ, aBin, aLen, QlF, QlS, QlW, QW, Xb, goInt, Ql9, Qmg, Qmf, T.Qk4, T.Qk6, QE, ei44, un44, ti69, t0, t4, z9, hg, QE]) | (with_reducible (first | refine Qi fun K hK => ?_ | refine Qm ?_ | refine Qn ?_ | refine Qv ?_ | refine Qf ?_ | refine QB ?_ | refine QH ?_)) | ((with_reducible refine hK _ ?_); clear hK) | (refine Qj rfl ?_; simp only [↓reduceIte]))
        simp only [QN, Qp, Qu, upd, ↓reduceIte, QlJ, QlN]
        exact Qe (Qcf _) (.keep (.v _)) ⟨by rw [he]; rfl, rfl⟩
    · have z9 : ¬ (k : Int) < l.length := by omega
      have hkl : k = l.length := by omega
      rw [hkl, List.drop_length, rargs] at he
      by_cases q : n ≤ 200
      · have z1 : (n : Int) ≤ 200 := by omega
        repeat (first | (((with_reducible refine Qa fun K E hK hE => ?_)); simp -implicitDefEqProofs only [Qd, Qb, Qg, OpW, aop, AS.ev, Qc, Qq, Qk, ↓reduceIte, Nat.reduceLT, Nat.reduceEqDiff, aBin, aLen, QlF, QW, X5, goInt, Ql9, Qma, QE, un44, t0, t3, t4, z9, z1, QE]) | (with_reducible (first | refine Qi fun K hK => ?_ | refine Qn ?_ | refine Q2 ?_ | refine Qf ?_ | refine QU ?_ | refine QV ?_)) | ((with_reducible refine hK _ ?_); clear hK) | (clear hK; (with_reducible refine hK _ ?_); clear hK) | (refine Qj rfl ?_; simp only [↓reduceIte, QlH]))
        simp only [QN, Qp, Qu, upd, ↓reduceIte, QlJ, QlN]
        exact Qe (Qcf _) (.keep (.v _)) ⟨by rw [he, decide_eq_true q], rfl⟩
      · have z1 : ¬ (n : Int) ≤ 200 := by omega
        repeat (first | (((with_reducible refine Qa fun K E hK hE => ?_)); simp -implicitDefEqProofs only [Qd, Qb, Qg, OpW, aop, AS.ev, Qc, Qq, Qk, ↓reduceIte, Nat.reduceLT, Nat.reduceEqDiff, aBin, aLen, QlF, QW, X5, goInt, Qma, QE, un44, t0, t3, t4, z9, z1, QE]) | (with_reducible (first | refine Qi fun K hK => ?_ | refine Qn ?_ | refine Q2 ?_ | refine Qf ?_ | refine QU ?_ | refine QV ?_)) | ((with_reducible refine hK _ ?_); clear hK) | (clear hK; (with_reducible refine hK _ ?_); clear hK) | (refine Qj rfl ?_; simp only [↓reduceIte, QlH]))
        simp only [QN, Qp, Qu, upd, ↓reduceIte, QlJ, QlN]
        exact Qe (Qcf _) (.keep (.v _)) ⟨by rw [he, decide_eq_false q], rfl⟩
  · rw [hI]
    exact ⟨0, 0, by omega, Nat.zero_le _, by have := Qbe l; simp only [QlU]; omega, by rw [List.drop_zero], rfl, rfl, rfl, rfl⟩
theorem ZE (g : G) (hn : ndsL g.args ≤ 1000000) (ho : g.ok) : Pure Tryz.prog 88 [g.atom] (.b (Q8 g)) := by
  intro h
  obtain ⟨o1, o2, o3⟩ := ho
  have cr : Pure Tryz.prog 44 [.v (.string g.name)] (.b (Yv g.name)) := ZW g.name (by simp only [maxLen]; omega)
  have ca := Qas g.args hn o3
  cases hr : Yv g.name with
  | false =>
    rw [hr] at cr
    refine Qh Tryz.func88 rfl Tryz.call88 Tryz.ntmps88 (congrArg Array.toList Tryz.results88) (by simp) ?_
    repeat (first | ((first | (with_reducible (first | refine Qa fun K E hK hE => ?_ | refine Qs cr ?_))); simp -implicitDefEqProofs only [Qd, Qb, Qg, OpW, QR, aop, undef, AS.ev, Qc, Qr, Qk, QD, QlK, AV.Qk5, QlX, QlY, QA, QI, QlZ, ↓reduceIte, QlQ, QlR, Nat.reduceAdd, Nat.reduceLT, Nat.reduceEqDiff, QlP, Ql2, Ql, QK, QL, QO, QlD, QlE, QlF, QlI, QlG, QlS, QlW, QlH, beq_true, ti9, YQ, XB]) | (with_reducible refine Qn ?_) | ((with_reducible refine hK _ ?_); clear hK))
    simp only [QN, Qp, Qu, upd, ↓reduceIte, QlJ, QlN]; first | refine Qe (htake _ _) (.keep (.v _)) ⟨by rw [Q8, hr]; rfl, rfl⟩ | refine Qe List.take_length (.keep (.v _)) ⟨by rw [Q8, hr]; rfl, rfl⟩
  | true =>
    rw [hr] at cr
    by_cases q : g.args.length ≤ 6
    · have z : (g.args.length : Int) ≤ 6 := by omega
      refine Qh Tryz.func88 rfl Tryz.call88 Tryz.ntmps88 (congrArg Array.toList Tryz.results88) (by simp) ?_
      repeat (first | ((first | (with_reducible (first | refine Qa fun K E hK hE => ?_ | refine Qs cr ?_ | refine Qs ca ?_))); simp -implicitDefEqProofs only [Qd, Qb, Qg, OpW, QR, aop, undef, AS.ev, Qc, Qq, Qr, Qk, QD, QlK, AV.Qk5, QlX, QlY, QA, QI, QlZ, ↓reduceIte, QlQ, QlR, Nat.reduceAdd, Nat.reduceLT, Nat.reduceEqDiff, QlP, Ql2, Ql, QK, QL, aBin, aLen, QO, QlD, QlE, QlF, QlI, QlG, QlS, QlW, X5, goInt, Ql9, QlL, QE, ti9, ti44, un44, YQ, YM, XB, QE, z]) | (with_reducible refine Qn ?_) | ((with_reducible refine hK _ ?_); clear hK))
      simp only [QN, Qp, Qu, upd, ↓reduceIte, QlJ, QlN]; first | refine Qe (htake _ _) (.keep (.v _)) ⟨by rw [Q8, hr, decide_eq_true q]; rfl, rfl⟩ | refine Qe List.take_length (.keep (.v _)) ⟨by rw [Q8, hr, decide_eq_true q]; rfl, rfl⟩
    · have z : ¬ (g.args.length : Int) ≤ 6 := by omega
      refine Qh Tryz.func88 rfl Tryz.call88 Tryz.ntmps88 (congrArg Array.toList Tryz.results88) (by simp) ?_
      repeat (first | ((first | (with_reducible (first | refine Qa fun K E hK hE => ?_ | refine Qs cr ?_))); simp -implicitDefEqProofs only [Qd, Qb, Qg, OpW, QR, aop, undef, AS.ev, Qc, Qq, Qr, Qk, QD, QlK, AV.Qk5, QlX, QlY, QA, QI, QlZ, ↓reduceIte, QlQ, QlR, Nat.reduceAdd, Nat.reduceLT, Nat.reduceEqDiff, QlP, Ql2, Ql, QK, QL, aBin, aLen, QO, QlD, QlE, QlF, QlI, QlG, QlS, QlW, X5, goInt, Qma, QlL, QlH, beq_true, QE, ti9, ti44, un44, YQ, YM, XB, QE, z]) | (with_reducible refine Qn ?_) | ((with_reducible refine hK _ ?_); clear hK))
      simp only [QN, Qp, Qu, upd, ↓reduceIte, QlJ, QlN]; first | refine Qe (htake _ _) (.keep (.v _)) ⟨by rw [Q8, hr, decide_eq_false q]; rfl, rfl⟩ | refine Qe List.take_length (.keep (.v _)) ⟨by rw [Q8, hr, decide_eq_false q]; rfl, rfl⟩
def Zn (op : Int) : Int := if op = 1 ∨ op = 2 then 0 else if op = 11 ∨ op = 12 then 1 else if 2 < op ∧ op < 11 then 2 else -1
theorem Qib (op : Int) : Pure Tryz.prog 130 [.i op] (.i (Zn op)) := by
  intro h
  by_cases k1 : op = 1
  · have z1 : (op == 1) = true := by simp [k1]
    have R : Zn op = 0 := by simp [Zn, k1]
    rw [R]
    refine Qh Tryz.func130 rfl Tryz.call130 Tryz.ntmps130 (congrArg Array.toList Tryz.results130) (by simp) ?_
    repeat (first | (((with_reducible refine Qa fun K E hK hE => ?_)); simp -implicitDefEqProofs only [Qd, Qb, Qg, OpW, aop, undef, AS.ev, Qc, Qq, Qr, Qk, QD, QlK, Ql0, ↓reduceIte, Nat.reduceLT, Nat.reduceEqDiff, aBin, QlD, QlE, QlF, QlI, QlG, QS, beq_false, z1]) | (with_reducible (first | refine Qi fun K hK => ?_ | refine Qm ?_ | refine Qn ?_ | refine QB ?_ | refine QH ?_)) | ((with_reducible refine hK _ ?_); clear hK) | (refine Qj rfl ?_; simp only [↓reduceIte]))
    simp only [QN, Qp, Qu, upd, ↓reduceIte, QlJ, QlN]; first | refine Qe (htake _ _) (.keep (.v _)) ⟨rfl, rfl⟩ | refine Qe List.take_length (.keep (.v _)) ⟨rfl, rfl⟩
  have z1 : (op == 1) = false := by simp [k1]
  by_cases k2 : op = 2
  · have z2 : (op == 2) = true := by simp [k2]
    have R : Zn op = 0 := by simp [Zn, k2]
    rw [R]
    refine Qh Tryz.func130 rfl Tryz.call130 Tryz.ntmps130 (congrArg Array.toList Tryz.results130) (by simp) ?_
    repeat (first | (((with_reducible refine Qa fun K E hK hE => ?_)); simp -implicitDefEqProofs only [Qd, Qb, Qg, OpW, aop, undef, AS.ev, Qc, Qq, Qk, QD, QlK, ↓reduceIte, Nat.reduceLT, Nat.reduceEqDiff, aBin, QlD, QlE, QlF, QlI, QlG, QS, QlL, QlH, z1, z2]) | (with_reducible (first | refine Qi fun K hK => ?_ | refine Qm ?_ | refine Qn ?_ | refine QB ?_ | refine QH ?_)) | ((with_reducible refine hK _ ?_); clear hK) | (refine Qj rfl ?_; simp only [↓reduceIte]))
    simp only [QN, Qp, Qu, upd, ↓reduceIte, QlJ, QlN]; first | refine Qe (htake _ _) (.keep (.v _)) ⟨rfl, rfl⟩ | refine Qe List.take_length (.keep (.v _)) ⟨rfl, rfl⟩
  have z2 : (op == 2) = false := by simp [k2]
  by_cases k11 : op = 11
  · have z11 : (op == 11) = true := by simp [k11]
    have R : Zn op = 1 := by simp [Zn, k11]
    rw [R]
    refine Qh Tryz.func130 rfl Tryz.call130 Tryz.ntmps130 (congrArg Array.toList Tryz.results130) (by simp) ?_
    repeat (first | (((with_reducible refine Qa fun K E hK hE => ?_)); simp -implicitDefEqProofs only [Qd, Qb, Qg, OpW, aop, undef, AS.ev, Qc, Qq, Qr, Qk, QD, QlK, Ql0, ↓reduceIte, Nat.reduceLT, Nat.reduceEqDiff, aBin, QlD, QlE, QlF, QlI, QlG, QS, QlL, QlH, beq_false, z1, z2, z11]) | (with_reducible (first | refine Qi fun K hK => ?_ | refine Qm ?_ | refine Qn ?_ | refine QB ?_ | refine QH ?_)) | ((with_reducible refine hK _ ?_); clear hK) | (refine Qj rfl ?_; simp only [↓reduceIte, QlH]))
    simp only [QN, Qp, Qu, upd, ↓reduceIte, QlJ, QlN]; first | refine Qe (htake _ _) (.keep (.v _)) ⟨rfl, rfl⟩ | refine Qe List.take_length (.keep (.v _)) ⟨rfl, rfl⟩
  have z11 : (op == 11) = false := by simp [k11]
  by_cases k12 : op = 12
  · have z12 : (op == 12) = true := by simp [k12]
    have R : Zn op = 1 := by simp [Zn, k12]
    rw [R]
    refine Qh Tryz.func130 rfl Tryz.call130 Tryz.ntmps130 (congrArg Array.toList Tryz.results130) (by simp) ?_
    repeat (first | (((with_reducible refine Qa fun K E hK hE => ?_)); simp -implicitDefEqProofs only [Qd, Qb, Qg, OpW, aop, undef, AS.ev, Qc, Qq, Qk, QD, QlK, ↓reduceIte, Nat.reduceLT, Nat.reduceEqDiff, aBin, QlD, QlE, QlF, QlI, QlG, QS, QlL, QlH, z1, z2, z11, z12]) | (with_reducible (first | refine Qi fun K hK => ?_ | refine Qm ?_ | refine Qn ?_ | refine QB ?_ | refine QH ?_)) | ((with_reducible refine hK _ ?_); clear hK) | (refine Qj rfl ?_; simp only [↓reduceIte, QlH]))
    simp only [QN, Qp, Qu, upd, ↓reduceIte, QlJ, QlN]; first | refine Qe (htake _ _) (.keep (.v _)) ⟨rfl, rfl⟩ | refine Qe List.take_length (.keep (.v _)) ⟨rfl, rfl⟩
  have z12 : (op == 12) = false := by simp [k12]
  by_cases g1 : op > 2
  · by_cases g2 : op < 11
    · have R : Zn op = 2 := by rw [Zn, if_neg (by omega), if_neg (by omega), if_pos (by omega)]
      rw [R]
      refine Qh Tryz.func130 rfl Tryz.call130 Tryz.ntmps130 (congrArg Array.toList Tryz.results130) (by simp) ?_
      repeat (first | (((with_reducible refine Qa fun K E hK hE => ?_)); simp -implicitDefEqProofs only [Qd, Qb, Qg, OpW, aop, undef, AS.ev, Qc, Qq, Qk, QD, QlK, ↓reduceIte, Nat.reduceLT, Nat.reduceEqDiff, aBin, QlD, QlE, QlF, QlI, QlG, QS, QW, Q1, Ql9, QlL, QlH, z1, z2, z11, z12, g1, g2]) | (with_reducible (first | refine Qi fun K hK => ?_ | refine Qm ?_ | refine Qn ?_ | refine QB ?_ | refine QH ?_)) | ((with_reducible refine hK _ ?_); clear hK) | (refine Qj rfl ?_; simp only [↓reduceIte, QlH]))
      simp only [QN, Qp, Qu, upd, ↓reduceIte, QlJ, QlN]; first | refine Qe (htake _ _) (.keep (.v _)) ⟨rfl, rfl⟩ | refine Qe List.take_length (.keep (.v _)) ⟨rfl, rfl⟩
    · have R : Zn op = -1 := by rw [Zn, if_neg (by omega), if_neg (by omega), if_neg (by omega)]
      rw [R]
      refine Qh Tryz.func130 rfl Tryz.call130 Tryz.ntmps130 (congrArg Array.toList Tryz.results130) (by simp) ?_
      repeat (first | (((with_reducible refine Qa fun K E hK hE => ?_)); simp -implicitDefEqProofs only [Qd, Qb, Qg, OpW, aop, undef, AS.ev, Qc, Qq, Qk, QD, QlK, ↓reduceIte, Nat.reduceLT, Nat.reduceEqDiff, aBin, QlD, QlE, QlF, QlI, QlG, QS, QW, Q1, Ql9, Qma, QlL, QlH, z1, z2, z11, z12, g1, g2]) | (with_reducible (first | refine Qi fun K hK => ?_ | refine Qm ?_ | refine Qn ?_ | refine Qv ?_ | refine Qf ?_ | refine Qw ?_)) | ((with_reducible refine hK _ ?_); clear hK) | (refine Qj rfl ?_; simp only [↓reduceIte, QlH]))
      simp only [QN, Qp, Qu, upd, ↓reduceIte, QlJ, QlN]; first | refine Qe (htake _ _) (.keep (.v _)) ⟨rfl, rfl⟩ | refine Qe List.take_length (.keep (.v _)) ⟨rfl, rfl⟩
  · have R : Zn op = -1 := by rw [Zn, if_neg (by omega), if_neg (by omega), if_neg (by omega)]
    rw [R]
    refine Qh Tryz.func130 rfl Tryz.call130 Tryz.ntmps130 (congrArg Array.toList Tryz.results130) (by simp) ?_
    repeat (first | (((with_reducible refine Qa fun K E hK hE => ?_)); simp -implicitDefEqProofs only [Qd, Qb, Qg, OpW, aop, undef, AS.ev, Qc, Qq, Qr, Qk, QD, QlK, ↓reduceIte, Nat.reduceLT, Nat.reduceEqDiff, aBin, QlD, QlE, QlF, QlI, QlG, QS, Q1, Qma, QlL, QlH, beq_true, z1, z2, z11, z12, g1]) | (with_reducible (first | refine Qi fun K hK => ?_ | refine Qm ?_ | refine Qn ?_ | refine Qv ?_ | refine Qf ?_ | refine Qw ?_)) | ((with_reducible refine hK _ ?_); clear hK) | (refine Qj rfl ?_; simp only [↓reduceIte, QlH]))
    simp only [QN, Qp, Qu, upd, ↓reduceIte, QlJ, QlN]; first | refine Qe (htake _ _) (.keep (.v _)) ⟨rfl, rfl⟩ | refine Qe List.take_length (.keep (.v _)) ⟨rfl, rfl⟩
theorem QhV (op : Int) (n : Nat) : decide (Zn op = (n : Int)) = (decide (0 < op ∧ op ≤ 12) && decide ((n : Int) = ZY op)) := by
    rw [QdS]
    apply decide_eq_decide.2
    rw [Zn, ZY]
    by_cases h1 : op = 1 ∨ op = 2
    · rw [if_pos h1, if_pos h1]; omega
    rw [if_neg h1, if_neg h1]
    by_cases h2 : op = 11 ∨ op = 12
    · rw [if_pos h2, if_pos h2]; omega
    rw [if_neg h2, if_neg h2]
    split <;> omega
theorem Qau (g : G) (hn : ndsL g.args ≤ 1000000) (ho : g.ok) : Pure Tryz.prog 90 [g.goal] (.b (Q4 g)) := by
    intro h
    by_cases k0 : g.op = 0
    · have z0 : (g.op == 0) = true := by simp [k0]
      have c := ZE ⟨0, g.name, g.args⟩ hn ⟨by show i64 0; unfold i64; omega, ho.2.1, ho.2.2⟩
      rw [show G.atom ⟨0, g.name, g.args⟩ = AV.agg [.v (.string g.name), .sl 4 (avs g.args) none] from rfl] at c
      rw [Q4, if_pos k0]
      refine Qh Tryz.func90 rfl Tryz.call90 Tryz.ntmps90 (congrArg Array.toList Tryz.results90) (by simp) ?_
      repeat (first | ((first | (with_reducible (first | refine Qa fun K E hK hE => ?_ | refine Qs c ?_))); simp -implicitDefEqProofs only [Qd, Qb, Qg, OpW, QR, aop, undef, AS.ev, Qc, Qq, Qr, Qk, QD, QlK, AV.Qk5, Qy, Q6, Xs, QM, QlX, QlY, QC, QA, QP, QI, QlZ, ↓reduceIte, QlQ, QlR, Nat.reduceAdd, Nat.reduceLT, Nat.reduceLeDiff, Nat.reduceEqDiff, QlP, Ql2, Qmb, Ql, QK, QL, aBin, Zp, ZB, QO, QlD, QlE, QlF, QlS, QlW, Ql5, Ql4, Ql6, QlO, QlV, QlM, QlU, QS, ti3, ti9, ti44, XG, Yy, Ya, zi66, sp66, Q3, z0]) | (with_reducible (first | refine Qi fun K hK => ?_ | refine Qn ?_ | refine QB ?_)) | ((with_reducible refine hK _ ?_); clear hK) | (refine Qj rfl ?_; simp only [↓reduceIte]))
      simp only [QN, Qp, Qu, upd, ↓reduceIte, QlJ, QlN]; first | refine Qe (htake _ _) (.keep (.v _)) ⟨rfl, rfl⟩ | refine Qe List.take_length (.keep (.v _)) ⟨rfl, rfl⟩
    have z0 : (g.op == 0) = false := by simp [k0]
    have ca := Qas g.args hn ho.2.2
    have cy := Qib g.op
    have key := QhV g.op g.args.length
    have R : Q4 g = (Yr g.name && (decide (Zn g.op = (g.args.length : Int)) && (runL g.args 200 20).1)) := by
      rw [Q4, if_neg k0, key]
      cases Yr g.name <;> cases decide (0 < g.op ∧ g.op ≤ 12) <;> simp
    rw [R]
    cases c3 : Yr g.name with
    | false =>
      have c3' : (g.name.toList == ({ data := #[] } : ByteArray).toList) = false := c3
      refine Qh Tryz.func90 rfl Tryz.call90 Tryz.ntmps90 (congrArg Array.toList Tryz.results90) (by simp) ?_
      repeat (first | ((first | (with_reducible refine Qa fun K E hK hE => ?_) | (refine QX (id := 3) [(0, 0), (1, 0), (2, 0), (3, 0), (4, 0), (5, 0), (6, 1), (7, 0), (8, 0), (9, 0), (10, 0), (11, 0), (12, 0), (13, 0), (14, 0), (15, 1), (16, 0), (17, 0)] mixed (by kernel_rfl) fun K hK => ?_)); simp -implicitDefEqProofs only [Xk, Xd, Xw, Qd, Qb, Qg, OpW, aop, undef, AS.ev, Qc, Qq, Qr, QF, Qk, QD, QlK, AV.Qk5, QlX, QlY, QC, QA, QI, QlZ, ↓reduceIte, QlQ, QlR, Nat.reduceAdd, Nat.reduceLT, Nat.reduceEqDiff, QlP, Ql2, Ql, QK, QL, aBin, QO, QlD, QlE, QlF, QlI, QlG, QS, QZ, QlH, beq_true, ti3, ti9, XG, Yy, Q3, z0, c3']) | (with_reducible (first | refine Qi fun K hK => ?_ | refine Qn ?_ | refine Qv ?_ | refine Qf ?_)) | ((with_reducible refine hK _ ?_); clear hK) | (refine Qj rfl ?_; simp only [↓reduceIte, QlH]))
      simp only [QN, Qp, Qu, upd, ↓reduceIte, QlJ, QlN]; first | refine Qe (htake _ _) (.keep (.v _)) ⟨rfl, rfl⟩ | refine Qe List.take_length (.keep (.v _)) ⟨rfl, rfl⟩
    | true =>
      have c3' : (g.name.toList == ({ data := #[] } : ByteArray).toList) = true := c3
      by_cases q : Zn g.op = (g.args.length : Int)
      · have q' : (Zn g.op == (g.args.length : Int)) = true := by simp [q]
        rw [decide_eq_true q]
        refine Qh Tryz.func90 rfl Tryz.call90 Tryz.ntmps90 (congrArg Array.toList Tryz.results90) (by simp) ?_
        repeat (first | ((first | (with_reducible (first | refine Qa fun K E hK hE => ?_ | refine QQ ca ?_ | refine QQ cy ?_)) | (refine QX (id := 3) [(0, 0), (1, 0), (2, 0), (3, 0), (4, 0), (5, 0), (6, 1), (7, 0), (8, 0), (9, 0), (10, 0), (11, 0), (12, 0), (13, 0), (14, 0), (15, 1), (16, 0), (17, 0)] mixed (by kernel_rfl) fun K hK => ?_)); simp -implicitDefEqProofs only [Xk, Xd, Xw, Qd, Qb, Qg, OpW, aop, undef, AS.ev, Qc, Qq, Qr, QF, Qk, QD, QlK, AV.Qk5, QlX, QlY, QC, QA, QI, QlZ, ↓reduceIte, QlQ, QlR, Nat.reduceAdd, Nat.reduceLT, Nat.reduceLeDiff, Nat.reduceEqDiff, QlP, Ql2, Ql, QK, QL, aBin, aLen, QO, QlD, QlE, QlF, QlI, QlG, QlS, QlW, QS, QZ, goInt, QlL, QE, ti3, ti9, ti44, un44, XG, Yy, Ya, Q3, z0, c3', q', QE]) | (with_reducible (first | refine Qi fun K hK => ?_ | refine Qn ?_ | refine Qv ?_ | refine Qf ?_)) | ((with_reducible refine hK _ ?_); clear hK) | (refine Qj rfl ?_; simp only [↓reduceIte, QlH]))
        simp only [QN, Qp, Qu, upd, ↓reduceIte, QlJ, QlN]; first | refine Qe (htake _ _) (.keep (.v _)) ⟨rfl, rfl⟩ | refine Qe List.take_length (.keep (.v _)) ⟨rfl, rfl⟩
      · have q' : (Zn g.op == (g.args.length : Int)) = false := by simp [q]
        rw [decide_eq_false q]
        refine Qh Tryz.func90 rfl Tryz.call90 Tryz.ntmps90 (congrArg Array.toList Tryz.results90) (by simp) ?_
        repeat (first | ((first | (with_reducible (first | refine Qa fun K E hK hE => ?_ | refine QQ cy ?_)) | (refine QX (id := 3) [(0, 0), (1, 0), (2, 0), (3, 0), (4, 0), (5, 0), (6, 1), (7, 0), (8, 0), (9, 0), (10, 0), (11, 0), (12, 0), (13, 0), (14, 0), (15, 1), (16, 0), (17, 0)] mixed (by kernel_rfl) fun K hK => ?_)); simp -implicitDefEqProofs only [Xk, Xd, Xw, Qd, Qb, Qg, OpW, aop, undef, AS.ev, Qc, Qq, Qr, QF, Qk, QD, QlK, AV.Qk5, QlX, QlY, QC, QA, QI, QlZ, ↓reduceIte, QlQ, QlR, Nat.reduceAdd, Nat.reduceLT, Nat.reduceLeDiff, Nat.reduceEqDiff, QlP, Ql2, Ql, QK, QL, aBin, aLen, QO, QlD, QlE, QlF, QlI, QlG, QlS, QlW, QS, QZ, goInt, QlL, QlH, beq_true, QE, ti3, ti9, ti44, un44, XG, Yy, Ya, Q3, z0, c3', q', QE]) | (with_reducible (first | refine Qi fun K hK => ?_ | refine Qn ?_ | refine Qv ?_ | refine Qf ?_)) | ((with_reducible refine hK _ ?_); clear hK) | (refine Qj rfl ?_; simp only [↓reduceIte, QlH]))
        simp only [QN, Qp, Qu, upd, ↓reduceIte, QlJ, QlN]; first | refine Qe (htake _ _) (.keep (.v _)) ⟨rfl, rfl⟩ | refine Qe List.take_length (.keep (.v _)) ⟨rfl, rfl⟩
end Go.Proofs.YtenheconhibonaaGreatDoor.Ab
