/-
  An abstract program logic, contracts of functions, and laws of terms and rules (part 4).
-/
import Derived.Test.YtenheconhibonaaGreatDoorAbTwo
import Derived.Test.YtenheconhibonaaGreatDoorAbThree
set_option linter.unusedVariables false
set_option linter.unusedSimpArgs false
set_option maxHeartbeats 4000000
set_option maxRecDepth 4000
namespace Go.Proofs.YtenheconhibonaaGreatDoor.Ab
open Go.Proofs
def Yv (s : ByteArray) : Bool := decide (QbI 1 s) && !resB s
def Yr (s : ByteArray) : Bool := s.toList == ({ data := #[] } : ByteArray).toList
mutual
def T.run : T → Int → Int → Bool × Int
  | .mk k i n l, b, d =>
    if b - 1 < 0 ∨ d < 1 then (false, b - 1) else
    if k = 0 then (decide (-2147483648 ≤ i ∧ i ≤ 2147483648) && Yr n && l.isEmpty, b - 1) else
    if k = 1 then (decide (0 ≤ i ∧ i ≤ 1048576) && Yr n && l.isEmpty, b - 1) else
    if k = 2 then (if i ≠ 0 ∨ 6 < l.length then (false, b - 1) else if (!Yv n && !(opB n && decide (l.length = 2))) = true then (false, b - 1) else runL l (b - 1) (d - 1)) else (false, b - 1)
def runL : List T → Int → Int → Bool × Int
  | [], b, d => (true, b)
  | t :: l, b, d => if (t.run b d).1 = true then runL l (t.run b d).2 d else (false, (t.run b d).2)
end
theorem T.run_eq (t : T) (b d : Int) : t.run b d = if b - 1 < 0 ∨ d < 1 then (false, b - 1) else
    if t.kind = 0 then (decide (-2147483648 ≤ t.int ∧ t.int ≤ 2147483648) && Yr t.name && t.args.isEmpty, b - 1) else
    if t.kind = 1 then (decide (0 ≤ t.int ∧ t.int ≤ 1048576) && Yr t.name && t.args.isEmpty, b - 1) else
    if t.kind = 2 then (if t.int ≠ 0 ∨ 6 < t.args.length then (false, b - 1) else if (!Yv t.name && !(opB t.name && decide (t.args.length = 2))) = true then (false, b - 1) else runL t.args (b - 1) (d - 1)) else (false, b - 1) := by
  cases t; rw [T.run]; rfl
theorem QiZ {l : List T} {k : Nat} (h : k < l.length) (b d : Int) : runL (l.drop k) b d = if ((l[k]).run b d).1 = true then runL (l.drop (k + 1)) ((l[k]).run b d).2 d else (false, ((l[k]).run b d).2) := by
  rw [List.drop_eq_getElem_cons h]; simp only [runL]
def bud (b : Int) : AB := .cells 149 1 [.agg [.i b]]
theorem Qjp (d : Int) (ih : ∀ (t : T) (b : Int) (i : Nat), -1 ≤ b → b ≤ 1000 → Chg Tryz.prog 139 [.ptr i 0 0, t.av, .i d] i (bud b) (.b (t.run b d).1) (bud (t.run b d).2))
    (l : List T) (hl : l.length ≤ 1000) (b : Int) (i : Nat) (hb : -1 ≤ b ∧ b ≤ 1000) (hr : ∀ (t : T) (b : Int), -1 ≤ b ∧ b ≤ 1000 → (t.run b d).1 = true → -1 ≤ (t.run b d).2 ∧ (t.run b d).2 ≤ 1000) :
    Chg Tryz.prog 101 [.ptr i 0 0, .sl 4 (avs l) none, .i d] i (bud b) (.b (runL l b d).1) (bud (runL l b d).2) := by
  intro h hi
  have f1 := fun x => Zr h i x
  refine Qh Tryz.func101 rfl Tryz.call101 Tryz.ntmps101 (congrArg Array.toList Tryz.results101) (by simp) ?_
  repeat (first | (((with_reducible refine Qa fun K E hK hE => ?_)); simp -implicitDefEqProofs only [Qd, Qb, Qg, OpW, aop, undef, AS.ev, Qc, Qq, Qr, Qk, QD, QlK, Ql3, ↓reduceIte, Nat.reduceLT, Nat.reduceEqDiff, aLen, QlF, goInt, QE, un44, QE]) | (with_reducible (first | refine Qi fun K hK => ?_ | refine Qm ?_)) | ((with_reducible refine hK _ ?_); clear hK))
  obtain ⟨I, hI⟩ : ∃ I : Nat → AS → Prop, I = fun m' s => ∃ (k : Nat) (b' : Int), m' = l.length - k ∧ k ≤ l.length ∧ (-1 ≤ b' ∧ b' ≤ 1000) ∧ runL l b d = runL (l.drop k) b' d ∧ s.tm 0 = .ptr i 0 0 ∧ s.tm 1 = .sl 4 (avs l) none ∧ s.tm 2 = .i d ∧ s.tm 9 = .i l.length ∧ s.tm 10 = .i k ∧ s.h = hs h i (bud b') := ⟨_, rfl⟩; refine Q9 I ?_ (m := l.length) ?_
  · intro m' s hs; rw [hI] at hs; obtain ⟨tm, hp⟩ := s; dsimp only at hs; obtain ⟨k, b', rfl, hk, hb', he, t0, t1, t2, t9, t10, rfl⟩ := hs
    by_cases hlt : k < l.length
    · have hg := Y0 hlt
      have c := ih l[k] b' i hb'.1 hb'.2 h hi
      rw [QiZ hlt] at he
      cases hr1 : ((l[k]).run b' d).1 with
      | true =>
        rw [hr1] at c he
        repeat (first | ((first | (with_reducible (first | refine Qa fun K E hK hE => ?_ | refine Qo fun K E hK hE => ?_ | refine FunW.ret (FunW.call c) ?_))); simp -implicitDefEqProofs only [Qd, Qb, Qg, OpW, QR, aop, AS.ev, Qc, Qq, Qk, Ql0, ↓reduceIte, QlQ, QlR, Nat.reduceAdd, Nat.reduceLT, Nat.reduceEqDiff, QlP, Qmb, QK, QL, QJ, aBin, QlF, QlS, QlW, QW, Xf, Xb, Ql9, Qmg, Qmf, Qmr, T.Qk4, T.Qk6, QE, ei44, ti69, t0, t1, t2, t9, t10, hlt, hg, T.Qk6, T.Qk4]) | (with_reducible (first | refine Qi fun K hK => ?_ | refine Qm ?_ | refine Qv ?_ | refine Qf ?_ | refine Qw ?_)) | ((with_reducible refine hK _ ?_); clear hK) | (refine Qj rfl ?_; simp only [↓reduceIte, QlH]))
        refine XD.mk (m' := l.length - (k + 1)) (by omega) ?_
        rw [hI]
        refine ⟨k + 1, _, rfl, hlt, hr _ _ hb' hr1, by rw [he, if_pos rfl], t0, t1, t2, t9, ?_, rfl⟩
        simp only [upd, ↓reduceIte]
        rw [Xe (by omega)]
      | false =>
        rw [hr1] at c he
        rw [if_neg (by simp)] at he
        repeat (first | ((first | (with_reducible (first | refine Qa fun K E hK hE => ?_ | refine FunW.ret (FunW.call c) ?_))); simp -implicitDefEqProofs only [Qd, Qb, Qg, OpW, QR, aop, AS.ev, Qc, Qr, Qk, Ql1, ↓reduceIte, QlQ, QlR, Nat.reduceAdd, Nat.reduceLT, Nat.reduceEqDiff, QlP, Qmb, QK, QL, QJ, aBin, QlF, QlS, QlW, QW, Xb, Ql9, Qmg, Qmf, Qmr, T.Qk4, T.Qk6, QE, ei44, ti69, t0, t1, t2, t9, t10, hlt, hg, T.Qk6, T.Qk4]) | (with_reducible (first | refine Qi fun K hK => ?_ | refine Qm ?_ | refine Qn ?_ | refine Qv ?_ | refine Qf ?_ | refine QB ?_ | refine QH ?_)) | ((with_reducible refine hK _ ?_); clear hK) | (refine Qj rfl ?_; simp only [↓reduceIte]))
        simp only [QN, Qp, Qu, upd, ↓reduceIte, QlJ, QlN]
        rw [he]
        exact .inr ⟨rfl, rfl⟩
    · have hkn : k = l.length := by omega
      subst hkn
      rw [List.drop_length] at he
      repeat (first | (((with_reducible refine Qa fun K E hK hE => ?_)); simp -implicitDefEqProofs only [Qd, Qb, Qg, OpW, aop, AS.ev, Qc, Qr, Nat.reduceLT, aBin, QlF, QW, Qma, Qmr, t9, t10, hlt]) | (with_reducible (first | refine Qi fun K hK => ?_ | refine Qn ?_ | refine Q2 ?_ | refine Qf ?_ | refine QU ?_ | refine QV ?_)) | ((with_reducible refine hK _ ?_); clear hK) | (clear hK; (with_reducible refine hK _ ?_); clear hK) | (refine Qj rfl ?_; simp only [↓reduceIte, QlH]))
      simp only [QN, Qp, Qu, upd, ↓reduceIte, QlJ, QlN]
      rw [he]
      exact .inr ⟨rfl, rfl⟩
  · rw [hI]
    exact ⟨0, b, rfl, by omega, hb, rfl, rfl, rfl, rfl, rfl, rfl, rfl⟩
mutual
theorem T.Qlm : ∀ (t : T) (b d : Int), -1 ≤ b ∧ b ≤ 1000 → (t.run b d).1 = true → -1 ≤ (t.run b d).2 ∧ (t.run b d).2 ≤ 1000
  | .mk k i n l, b, d, hb, h => by
    rw [T.run] at h ⊢
    split at h
    · cases h
    rename_i hn
    rw [if_neg hn]
    split at h
    · rename_i hk; rw [if_pos hk]; exact ⟨by simp only; omega, by simp only; omega⟩
    rename_i hk; rw [if_neg hk]
    split at h
    · rename_i hk; rw [if_pos hk]; exact ⟨by simp only; omega, by simp only; omega⟩
    rename_i hk; rw [if_neg hk]
    split at h
    · rename_i hk2
      rw [if_pos hk2]
      split at h
      · cases h
      rename_i hk; rw [if_neg hk]
      split at h
      · cases h
      rename_i hk; rw [if_neg hk]
      exact Qdd l _ _ (by omega) h
    · cases h
theorem Qdd : ∀ (l : List T) (b d : Int), -1 ≤ b ∧ b ≤ 1000 → (runL l b d).1 = true → -1 ≤ (runL l b d).2 ∧ (runL l b d).2 ≤ 1000
  | [], b, d, hb, h => by simpa only [runL] using hb
  | t :: l, b, d, hb, h => by
    rw [runL] at h ⊢
    split at h
    · rename_i ht
      rw [if_pos ht]
      exact Qdd l _ _ (T.Qlm t b d hb ht) h
    · cases h
end
theorem Yf (n : Nat) (b : Int) : (bud b).Below n := fun a ha => by
  simp [flat, AV.cells] at ha
  subst ha; exact .v _
theorem Qi1 : ∀ (dn : Nat) (t : T) (b : Int) (i : Nat), dn ≤ 1000 → -1 ≤ b → b ≤ 1000 → Chg Tryz.prog 139 [.ptr i 0 0, t.av, .i (dn : Int)] i (bud b) (.b (t.run b dn).1) (bud (t.run b dn).2) := by
  intro dn
  induction dn with
  | zero =>
    intro t b i hdn hb0 hb1 h hi
    have w1 : IntKind.i64.wrap (b - 1) = b - 1 := Yh (by omega)
    have f1 := fun x L => Qhc hi x L
    have f2 := fun x y L => Qhi hi x y L
    have f3 := fun x L => QaP (h := h) (i := i) x L
    have f4 := fun x => Zr h i x
    have fb : ∀ b, bud b = .cells 149 1 [.agg [.i b]] := fun _ => rfl
    by_cases m0 : b - 1 < 0
    · have hn : (b - 1 < 0 ∨ ((0 : Nat) : Int) < 1) := .inl m0
      have R : t.run b ((0 : Nat) : Int) = (false, b - 1) := by
        rw [T.run_eq, if_pos hn]
      rw [R]
      refine Qh Tryz.func139 rfl Tryz.call139 Tryz.ntmps139 (congrArg Array.toList Tryz.results139) (by simp) ?_
      repeat (first | (((with_reducible refine Qa fun K E hK hE => ?_)); simp -implicitDefEqProofs only [Qd, Qb, Qg, OpW, aop, undef, AS.ev, Qc, QY, Qq, Qr, Qk, QD, QlK, Ql3, AV.Qk5, Qy, Q6, QM, Xy, QlX, QlY, QC, QA, QI, QlZ, Ql0, ↓reduceIte, QlQ, QlR, Nat.reduceAdd, Nat.reduceLT, Nat.reduceLeDiff, Nat.reduceEqDiff, QlP, Ql2, Qmc, Qmb, Ql, QK, QL, Xj, Q0, aBin, QlD, QlE, Ql7, QlF, QlI, QlG, Ql4, Ql6, QlV, QlM, QlU, QW, YA, Ql9, Qmp, QlH, beq_false, T.Qk4, ti3, YW, Q5, w1, f1, f2, f4, fb, m0, T.Qk4]) | (with_reducible (first | refine Qi fun K hK => ?_ | refine Qn ?_ | refine QB ?_)) | ((with_reducible refine hK _ ?_); clear hK) | (refine Qj rfl ?_; simp only [↓reduceIte]))
      simp only [QN, Qp, Qu, upd, ↓reduceIte, QlJ, QlN]
      exact XC (Yf _ _) (.keep (.v _)) ⟨rfl, rfl⟩
    · have hn : (b - 1 < 0 ∨ ((0 : Nat) : Int) < 1) := .inr (by omega)
      have d0 : (0 : Int) < 1 := by omega
      have R : t.run b ((0 : Nat) : Int) = (false, b - 1) := by
        rw [T.run_eq, if_pos hn]
      rw [R]
      refine Qh Tryz.func139 rfl Tryz.call139 Tryz.ntmps139 (congrArg Array.toList Tryz.results139) (by simp) ?_
      repeat (first | (((with_reducible refine Qa fun K E hK hE => ?_)); simp -implicitDefEqProofs only [Qd, Qb, Qg, OpW, aop, undef, AS.ev, Qc, QY, Qq, Qr, Qk, QD, QlK, Ql3, AV.Qk5, Qy, Q6, QM, Xy, QlX, QlY, QC, QA, QI, QlZ, ↓reduceIte, QlQ, QlR, Nat.reduceAdd, Nat.reduceLT, Nat.reduceLeDiff, Nat.reduceEqDiff, QlP, Ql2, Qmc, Qmb, Ql, QK, QL, Xj, Q0, aBin, QlD, QlE, Ql7, QlF, QlI, QlG, Ql4, Ql6, QlV, QlM, QlU, QW, YA, Ql9, Qma, QlL, Qmp, QlH, T.Qk4, ti3, YW, Q5, w1, f1, f2, f4, fb, m0, d0, T.Qk4]) | (with_reducible (first | refine Qi fun K hK => ?_ | refine Qn ?_ | refine QB ?_)) | ((with_reducible refine hK _ ?_); clear hK) | (refine Qj rfl ?_; simp only [↓reduceIte]))
      simp only [QN, Qp, Qu, upd, ↓reduceIte, QlJ, QlN]
      exact XC (Yf _ _) (.keep (.v _)) ⟨rfl, rfl⟩
  | succ dn ih =>
    intro t b i hdn hb0 hb1 h hi
    have w1 : IntKind.i64.wrap (b - 1) = b - 1 := Yh (by omega)
    have f1 := fun x L => Qhc hi x L
    have f2 := fun x y L => Qhi hi x y L
    have f3 := fun x L => QaP (h := h) (i := i) x L
    have f4 := fun x => Zr h i x
    have fb : ∀ b, bud b = .cells 149 1 [.agg [.i b]] := fun _ => rfl
    have wd : IntKind.i64.wrap (((dn + 1 : Nat) : Int) - 1) = (dn : Int) := by rw [Yh (by omega)]; omega
    by_cases m0 : b - 1 < 0
    · have hn : (b - 1 < 0 ∨ ((dn + 1 : Nat) : Int) < 1) := .inl m0
      have R : t.run b ((dn + 1 : Nat) : Int) = (false, b - 1) := by
        rw [T.run_eq, if_pos hn]
      rw [R]
      refine Qh Tryz.func139 rfl Tryz.call139 Tryz.ntmps139 (congrArg Array.toList Tryz.results139) (by simp) ?_
      repeat (first | (((with_reducible refine Qa fun K E hK hE => ?_)); simp -implicitDefEqProofs only [Qd, Qb, Qg, OpW, aop, undef, AS.ev, Qc, QY, Qq, Qr, Qk, QD, QlK, Ql3, AV.Qk5, Qy, Q6, QM, Xy, QlX, QlY, QC, QA, QI, QlZ, Ql0, ↓reduceIte, QlQ, QlR, Nat.reduceAdd, Nat.reduceLT, Nat.reduceLeDiff, Nat.reduceEqDiff, QlP, Ql2, Qmc, Qmb, Ql, QK, QL, Xj, Q0, aBin, QlD, QlE, Ql7, QlF, QlI, QlG, Ql4, Ql6, QlV, QlM, QlU, QW, YA, Ql9, QlH, beq_false, T.Qk4, ti3, YW, Q5, w1, f1, f2, f4, fb, m0, T.Qk4]) | (with_reducible (first | refine Qi fun K hK => ?_ | refine Qn ?_ | refine QB ?_)) | ((with_reducible refine hK _ ?_); clear hK) | (refine Qj rfl ?_; simp only [↓reduceIte]))
      simp only [QN, Qp, Qu, upd, ↓reduceIte, QlJ, QlN]
      exact XC (Yf _ _) (.keep (.v _)) ⟨rfl, rfl⟩
    have d0 : ¬ ((dn + 1 : Nat) : Int) < 1 := by omega
    have hn : ¬ (b - 1 < 0 ∨ ((dn + 1 : Nat) : Int) < 1) := by omega
    by_cases k0 : t.kind = 0
    · have z0 : (t.kind == 0) = true := by simp [k0]
      by_cases c1 : t.int ≥ -2147483648
      rotate_left
      · have e1 : ¬ -2147483648 ≤ t.int := by omega
        have R : t.run b ((dn + 1 : Nat) : Int) = (false, b - 1) := by
          rw [T.run_eq, if_neg hn, if_pos k0]; simp [e1]
        rw [R]
        refine Qh Tryz.func139 rfl Tryz.call139 Tryz.ntmps139 (congrArg Array.toList Tryz.results139) (by simp) ?_
        repeat (first | (((with_reducible refine Qa fun K E hK hE => ?_)); simp -implicitDefEqProofs only [Qd, Qb, Qg, OpW, aop, undef, AS.ev, Qc, QY, Qq, Qr, Qk, QD, QlK, Ql3, AV.Qk5, Qy, Q6, QM, Xy, QlX, QlY, QC, QA, QI, QlZ, ↓reduceIte, QlQ, QlR, Nat.reduceAdd, Nat.reduceLT, Nat.reduceLeDiff, Nat.reduceEqDiff, QlP, Ql2, Qmc, Qmb, Ql, QK, QL, Xj, Q0, aBin, QlD, QlE, Ql7, QlF, QlI, QlG, Ql4, Ql6, QlV, QlM, QlU, QS, QW, Yl, YA, Qma, QlL, QlH, beq_true, T.Qk4, ti3, Xu, XS, YW, Q5, w1, f1, f2, f3, f4, fb, m0, d0, T.Qk4, z0, c1]) | (with_reducible (first | refine Qi fun K hK => ?_ | refine Qm ?_ | refine Qn ?_ | refine Qv ?_ | refine Qf ?_ | refine QB ?_ | refine QH ?_)) | ((with_reducible refine hK _ ?_); clear hK) | (refine Qj rfl ?_; simp only [↓reduceIte, QlH]))
        simp only [QN, Qp, Qu, upd, ↓reduceIte, QlJ, QlN]
        exact XC (Yf _ _) (.keep (.v _)) ⟨rfl, rfl⟩
      have e1 : -2147483648 ≤ t.int := by omega
      by_cases c2 : t.int ≤ 2147483648
      rotate_left
      · skip
        have R : t.run b ((dn + 1 : Nat) : Int) = (false, b - 1) := by
          rw [T.run_eq, if_neg hn, if_pos k0]; simp [e1, c2]
        rw [R]
        refine Qh Tryz.func139 rfl Tryz.call139 Tryz.ntmps139 (congrArg Array.toList Tryz.results139) (by simp) ?_
        repeat (first | (((with_reducible refine Qa fun K E hK hE => ?_)); simp -implicitDefEqProofs only [Qd, Qb, Qg, OpW, aop, undef, AS.ev, Qc, QY, Qq, Qr, Qk, QD, QlK, Ql3, AV.Qk5, Qy, Q6, QM, Xy, QlX, QlY, QC, QA, QI, QlZ, ↓reduceIte, QlQ, QlR, Nat.reduceAdd, Nat.reduceLT, Nat.reduceLeDiff, Nat.reduceEqDiff, QlP, Ql2, Qmc, Qmb, Ql, QK, QL, Xj, Q0, aBin, QlD, QlE, Ql7, QlF, QlI, QlG, Ql4, Ql6, QlV, QlM, QlU, QS, QW, X5, Yl, YA, Ql9, Qma, QlL, QlH, beq_true, T.Qk4, ti3, Xu, XS, YW, Q5, w1, f1, f2, f3, f4, fb, m0, d0, T.Qk4, z0, c1, c2]) | (with_reducible (first | refine Qi fun K hK => ?_ | refine Qm ?_ | refine Qn ?_ | refine Qv ?_ | refine Qf ?_ | refine QB ?_ | refine QH ?_)) | ((with_reducible refine hK _ ?_); clear hK) | (refine Qj rfl ?_; simp only [↓reduceIte, QlH]))
        simp only [QN, Qp, Qu, upd, ↓reduceIte, QlJ, QlN]
        exact XC (Yf _ _) (.keep (.v _)) ⟨rfl, rfl⟩
      cases c3 : Yr t.name with
      | false =>
        have c3' : (t.name.toList == ({ data := #[] } : ByteArray).toList) = false := c3
        have R : t.run b ((dn + 1 : Nat) : Int) = (false, b - 1) := by
          rw [T.run_eq, if_neg hn, if_pos k0]; simp [e1, c2, c3]
        rw [R]
        refine Qh Tryz.func139 rfl Tryz.call139 Tryz.ntmps139 (congrArg Array.toList Tryz.results139) (by simp) ?_
        repeat (first | (((with_reducible refine Qa fun K E hK hE => ?_)); simp -implicitDefEqProofs only [Qd, Qb, Qg, OpW, aop, undef, AS.ev, Qc, QY, Qq, Qr, QF, Qk, QD, QlK, Ql3, AV.Qk5, Qy, Q6, QM, Xy, QlX, QlY, QC, QA, QI, QlZ, ↓reduceIte, QlQ, QlR, Nat.reduceAdd, Nat.reduceLT, Nat.reduceLeDiff, Nat.reduceEqDiff, QlP, Ql2, Qmc, Qmb, Ql, QK, QL, Xj, Q0, aBin, QlD, QlE, Ql7, QlF, QlI, QlG, Ql4, Ql6, QlV, QlM, QlU, QS, QW, X5, Yl, YA, QZ, Ql9, Qma, QlL, QlH, beq_true, T.Qk4, ti3, ti9, Xu, XS, XM, YW, Q5, w1, f1, f2, f3, f4, fb, m0, d0, T.Qk4, z0, c1, c2, c3']) | (with_reducible (first | refine Qi fun K hK => ?_ | refine Qm ?_ | refine Qn ?_ | refine Qv ?_ | refine Qf ?_ | refine QB ?_ | refine QH ?_)) | ((with_reducible refine hK _ ?_); clear hK) | (refine Qj rfl ?_; simp only [↓reduceIte, QlH]))
        simp only [QN, Qp, Qu, upd, ↓reduceIte, QlJ, QlN]
        exact XC (Yf _ _) (.keep (.v _)) ⟨rfl, rfl⟩
      | true =>
        have c3' : (t.name.toList == ({ data := #[] } : ByteArray).toList) = true := c3
        cases hl : t.args with
        | nil =>
          have c4 : ((0 : Int) == 0) = true := rfl
          have R : t.run b ((dn + 1 : Nat) : Int) = (true, b - 1) := by
            rw [T.run_eq, if_neg hn, if_pos k0]; simp [e1, c2, c3, hl]
          rw [R]
          refine Qh Tryz.func139 rfl Tryz.call139 Tryz.ntmps139 (congrArg Array.toList Tryz.results139) (by simp) ?_
          repeat (first | (((with_reducible refine Qa fun K E hK hE => ?_)); simp -implicitDefEqProofs only [Qd, Qb, Qg, OpW, aop, undef, AS.ev, Qc, QY, Qq, Qr, QF, Qk, QD, QlK, Ql3, AV.Qk5, Qy, Q6, QM, Xy, QlX, QlY, QC, QA, QI, QlZ, ↓reduceIte, QlQ, QlR, Nat.reduceAdd, Nat.reduceLT, Nat.reduceLeDiff, Nat.reduceEqDiff, QlP, Ql2, Qmc, Qmb, Ql, QK, QL, Xj, Q0, aBin, aLen, QlD, QlE, Ql7, QlF, QlI, QlG, Ql4, Ql6, QlV, QlM, QlU, QS, QW, X5, Yl, YA, QZ, goInt, Ql9, Qma, QlL, Qmp, QlH, T.Qk4, ti3, ti9, ti44, un44, Xu, XS, XM, XN, YW, Q5, w1, f1, f2, f3, f4, fb, m0, d0, T.Qk4, z0, c1, c2, c3', hl, Qcw]) | (with_reducible (first | refine Qi fun K hK => ?_ | refine Qm ?_ | refine Qn ?_ | refine Qv ?_ | refine Qf ?_ | refine QB ?_ | refine QH ?_)) | ((with_reducible refine hK _ ?_); clear hK) | (refine Qj rfl ?_; simp only [↓reduceIte, QlH]))
          simp only [QN, Qp, Qu, upd, ↓reduceIte, QlJ, QlN]
          exact XC (Yf _ _) (.keep (.v _)) ⟨rfl, rfl⟩
        | cons a l =>
          have c4 : (((l.length + 1 : Nat) : Int) == 0) = false := by simp; omega
          have R : t.run b ((dn + 1 : Nat) : Int) = (false, b - 1) := by
            rw [T.run_eq, if_neg hn, if_pos k0]; simp [e1, c2, c3, hl]
          rw [R]
          refine Qh Tryz.func139 rfl Tryz.call139 Tryz.ntmps139 (congrArg Array.toList Tryz.results139) (by simp) ?_
          repeat (first | (((with_reducible refine Qa fun K E hK hE => ?_)); simp -implicitDefEqProofs only [Qd, Qb, Qg, OpW, aop, undef, AS.ev, Qc, QY, Qq, Qr, QF, Qk, QD, QlK, Ql3, AV.Qk5, Qy, Q6, QM, Xy, QlX, QlY, QC, QA, QI, QlZ, ↓reduceIte, QlQ, QlR, Nat.reduceAdd, Nat.reduceLT, Nat.reduceLeDiff, Nat.reduceEqDiff, QlP, Ql2, Qmc, Qmb, Ql, QK, QL, Xj, Q0, aBin, aLen, QlD, QlE, Ql7, QlF, QlI, QlG, Ql4, Ql6, QlV, QlM, QlU, QS, QW, X5, Yl, YA, QZ, goInt, Ql9, Qma, QlL, QlH, T.Qk4, QE, ti3, ti9, ti44, un44, Xu, XS, XM, XN, YW, Q5, w1, f1, f2, f3, f4, fb, m0, d0, T.Qk4, z0, c1, c2, c3', hl, QE, QlQ, c4]) | (with_reducible (first | refine Qi fun K hK => ?_ | refine Qm ?_ | refine Qn ?_ | refine Qv ?_ | refine Qf ?_ | refine QB ?_ | refine QH ?_)) | ((with_reducible refine hK _ ?_); clear hK) | (refine Qj rfl ?_; simp only [↓reduceIte, QlH]))
          simp only [QN, Qp, Qu, upd, ↓reduceIte, QlJ, QlN]
          exact XC (Yf _ _) (.keep (.v _)) ⟨rfl, rfl⟩
    have z0 : (t.kind == 0) = false := by simp [k0]
    by_cases k1 : t.kind = 1
    · have z1 : (t.kind == 1) = true := by simp [k1]
      by_cases c1 : t.int ≥ 0
      rotate_left
      · have e1 : ¬ 0 ≤ t.int := by omega
        have R : t.run b ((dn + 1 : Nat) : Int) = (false, b - 1) := by
          rw [T.run_eq, if_neg hn, if_neg k0, if_pos k1]; simp [e1]
        rw [R]
        refine Qh Tryz.func139 rfl Tryz.call139 Tryz.ntmps139 (congrArg Array.toList Tryz.results139) (by simp) ?_
        repeat (first | (((with_reducible refine Qa fun K E hK hE => ?_)); simp -implicitDefEqProofs only [Qd, Qb, Qg, OpW, aop, undef, AS.ev, Qc, QY, Qq, Qr, Qk, QD, QlK, Ql3, AV.Qk5, Qy, Q6, QM, Xy, QlX, QlY, QC, QA, QI, QlZ, ↓reduceIte, QlQ, QlR, Nat.reduceAdd, Nat.reduceLT, Nat.reduceLeDiff, Nat.reduceEqDiff, QlP, Ql2, Qmc, Qmb, Ql, QK, QL, Xj, Q0, aBin, QlD, QlE, Ql7, QlF, QlI, QlG, Ql4, Ql6, QlV, QlM, QlU, QS, QW, Yl, YA, Qma, QlL, QlH, beq_true, T.Qk4, ti3, Xu, XS, YW, Q5, w1, f1, f2, f3, f4, fb, m0, d0, T.Qk4, z0, z1, c1]) | (with_reducible (first | refine Qi fun K hK => ?_ | refine Qm ?_ | refine Qn ?_ | refine Qv ?_ | refine Qf ?_ | refine QB ?_ | refine QH ?_)) | ((with_reducible refine hK _ ?_); clear hK) | (refine Qj rfl ?_; simp only [↓reduceIte, QlH]))
        simp only [QN, Qp, Qu, upd, ↓reduceIte, QlJ, QlN]
        exact XC (Yf _ _) (.keep (.v _)) ⟨rfl, rfl⟩
      have e1 : 0 ≤ t.int := by omega
      by_cases c2 : t.int ≤ 1048576
      rotate_left
      · skip
        have R : t.run b ((dn + 1 : Nat) : Int) = (false, b - 1) := by
          rw [T.run_eq, if_neg hn, if_neg k0, if_pos k1]; simp [e1, c2]
        rw [R]
        refine Qh Tryz.func139 rfl Tryz.call139 Tryz.ntmps139 (congrArg Array.toList Tryz.results139) (by simp) ?_
        repeat (first | (((with_reducible refine Qa fun K E hK hE => ?_)); simp -implicitDefEqProofs only [Qd, Qb, Qg, OpW, aop, undef, AS.ev, Qc, QY, Qq, Qr, Qk, QD, QlK, Ql3, AV.Qk5, Qy, Q6, QM, Xy, QlX, QlY, QC, QA, QI, QlZ, ↓reduceIte, QlQ, QlR, Nat.reduceAdd, Nat.reduceLT, Nat.reduceLeDiff, Nat.reduceEqDiff, QlP, Ql2, Qmc, Qmb, Ql, QK, QL, Xj, Q0, aBin, QlD, QlE, Ql7, QlF, QlI, QlG, Ql4, Ql6, QlV, QlM, QlU, QS, QW, X5, Yl, YA, Ql9, Qma, QlL, QlH, beq_true, T.Qk4, ti3, Xu, XS, YW, Q5, w1, f1, f2, f3, f4, fb, m0, d0, T.Qk4, z0, z1, c1, c2]) | (with_reducible (first | refine Qi fun K hK => ?_ | refine Qm ?_ | refine Qn ?_ | refine Qv ?_ | refine Qf ?_ | refine QB ?_ | refine QH ?_)) | ((with_reducible refine hK _ ?_); clear hK) | (refine Qj rfl ?_; simp only [↓reduceIte, QlH]))
        simp only [QN, Qp, Qu, upd, ↓reduceIte, QlJ, QlN]
        exact XC (Yf _ _) (.keep (.v _)) ⟨rfl, rfl⟩
      cases c3 : Yr t.name with
      | false =>
        have c3' : (t.name.toList == ({ data := #[] } : ByteArray).toList) = false := c3
        have R : t.run b ((dn + 1 : Nat) : Int) = (false, b - 1) := by
          rw [T.run_eq, if_neg hn, if_neg k0, if_pos k1]; simp [e1, c2, c3]
        rw [R]
        refine Qh Tryz.func139 rfl Tryz.call139 Tryz.ntmps139 (congrArg Array.toList Tryz.results139) (by simp) ?_
        repeat (first | (((with_reducible refine Qa fun K E hK hE => ?_)); simp -implicitDefEqProofs only [Qd, Qb, Qg, OpW, aop, undef, AS.ev, Qc, QY, Qq, Qr, QF, Qk, QD, QlK, Ql3, AV.Qk5, Qy, Q6, QM, Xy, QlX, QlY, QC, QA, QI, QlZ, ↓reduceIte, QlQ, QlR, Nat.reduceAdd, Nat.reduceLT, Nat.reduceLeDiff, Nat.reduceEqDiff, QlP, Ql2, Qmc, Qmb, Ql, QK, QL, Xj, Q0, aBin, QlD, QlE, Ql7, QlF, QlI, QlG, Ql4, Ql6, QlV, QlM, QlU, QS, QW, X5, Yl, YA, QZ, Ql9, Qma, QlL, QlH, beq_true, T.Qk4, ti3, ti9, Xu, XS, XM, YW, Q5, w1, f1, f2, f3, f4, fb, m0, d0, T.Qk4, z0, z1, c1, c2, c3']) | (with_reducible (first | refine Qi fun K hK => ?_ | refine Qm ?_ | refine Qn ?_ | refine Qv ?_ | refine Qf ?_ | refine QB ?_ | refine QH ?_)) | ((with_reducible refine hK _ ?_); clear hK) | (refine Qj rfl ?_; simp only [↓reduceIte, QlH]))
        simp only [QN, Qp, Qu, upd, ↓reduceIte, QlJ, QlN]
        exact XC (Yf _ _) (.keep (.v _)) ⟨rfl, rfl⟩
      | true =>
        have c3' : (t.name.toList == ({ data := #[] } : ByteArray).toList) = true := c3
        cases hl : t.args with
        | nil =>
          have c4 : ((0 : Int) == 0) = true := rfl
          have R : t.run b ((dn + 1 : Nat) : Int) = (true, b - 1) := by
            rw [T.run_eq, if_neg hn, if_neg k0, if_pos k1]; simp [e1, c2, c3, hl]
          rw [R]
          refine Qh Tryz.func139 rfl Tryz.call139 Tryz.ntmps139 (congrArg Array.toList Tryz.results139) (by simp) ?_
          repeat (first | (((with_reducible refine Qa fun K E hK hE => ?_)); simp -implicitDefEqProofs only [Qd, Qb, Qg, OpW, aop, undef, AS.ev, Qc, QY, Qq, Qr, QF, Qk, QD, QlK, Ql3, AV.Qk5, Qy, Q6, QM, Xy, QlX, QlY, QC, QA, QI, QlZ, ↓reduceIte, QlQ, QlR, Nat.reduceAdd, Nat.reduceLT, Nat.reduceLeDiff, Nat.reduceEqDiff, QlP, Ql2, Qmc, Qmb, Ql, QK, QL, Xj, Q0, aBin, aLen, QlD, QlE, Ql7, QlF, QlI, QlG, Ql4, Ql6, QlV, QlM, QlU, QS, QW, X5, Yl, YA, QZ, goInt, Ql9, Qma, QlL, Qmp, QlH, T.Qk4, ti3, ti9, ti44, un44, Xu, XS, XM, XN, YW, Q5, w1, f1, f2, f3, f4, fb, m0, d0, T.Qk4, z0, z1, c1, c2, c3', hl, Qcw]) | (with_reducible (first | refine Qi fun K hK => ?_ | refine Qm ?_ | refine Qn ?_ | refine Qv ?_ | refine Qf ?_ | refine QB ?_ | refine QH ?_)) | ((with_reducible refine hK _ ?_); clear hK) | (refine Qj rfl ?_; simp only [↓reduceIte, QlH]))
          simp only [QN, Qp, Qu, upd, ↓reduceIte, QlJ, QlN]
          exact XC (Yf _ _) (.keep (.v _)) ⟨rfl, rfl⟩
        | cons a l =>
          have c4 : (((l.length + 1 : Nat) : Int) == 0) = false := by simp; omega
          have R : t.run b ((dn + 1 : Nat) : Int) = (false, b - 1) := by
            rw [T.run_eq, if_neg hn, if_neg k0, if_pos k1]; simp [e1, c2, c3, hl]
          rw [R]
          refine Qh Tryz.func139 rfl Tryz.call139 Tryz.ntmps139 (congrArg Array.toList Tryz.results139) (by simp) ?_
          repeat (first | (((with_reducible refine Qa fun K E hK hE => ?_)); simp -implicitDefEqProofs only [Qd, Qb, Qg, OpW, aop, undef, AS.ev, Qc, QY, Qq, Qr, QF, Qk, QD, QlK, Ql3, AV.Qk5, Qy, Q6, QM, Xy, QlX, QlY, QC, QA, QI, QlZ, ↓reduceIte, QlQ, QlR, Nat.reduceAdd, Nat.reduceLT, Nat.reduceLeDiff, Nat.reduceEqDiff, QlP, Ql2, Qmc, Qmb, Ql, QK, QL, Xj, Q0, aBin, aLen, QlD, QlE, Ql7, QlF, QlI, QlG, Ql4, Ql6, QlV, QlM, QlU, QS, QW, X5, Yl, YA, QZ, goInt, Ql9, Qma, QlL, QlH, T.Qk4, QE, ti3, ti9, ti44, un44, Xu, XS, XM, XN, YW, Q5, w1, f1, f2, f3, f4, fb, m0, d0, T.Qk4, z0, z1, c1, c2, c3', hl, QE, QlQ, c4]) | (with_reducible (first | refine Qi fun K hK => ?_ | refine Qm ?_ | refine Qn ?_ | refine Qv ?_ | refine Qf ?_ | refine QB ?_ | refine QH ?_)) | ((with_reducible refine hK _ ?_); clear hK) | (refine Qj rfl ?_; simp only [↓reduceIte, QlH]))
          simp only [QN, Qp, Qu, upd, ↓reduceIte, QlJ, QlN]
          exact XC (Yf _ _) (.keep (.v _)) ⟨rfl, rfl⟩
    have z1 : (t.kind == 1) = false := by simp [k1]
    by_cases k2 : t.kind = 2
    rotate_left
    · have z2 : (t.kind == 2) = false := by simp [k2]
      have R : t.run b ((dn + 1 : Nat) : Int) = (false, b - 1) := by
        rw [T.run_eq, if_neg hn, if_neg k0, if_neg k1, if_neg k2]
      rw [R]
      refine Qh Tryz.func139 rfl Tryz.call139 Tryz.ntmps139 (congrArg Array.toList Tryz.results139) (by simp) ?_
      repeat (first | (((with_reducible refine Qa fun K E hK hE => ?_)); simp -implicitDefEqProofs only [Qd, Qb, Qg, OpW, aop, undef, AS.ev, Qc, QY, Qq, Qr, Qk, QD, QlK, Ql3, AV.Qk5, Qy, Q6, QM, Xy, QlX, QlY, QC, QA, QI, QlZ, ↓reduceIte, QlQ, QlR, Nat.reduceAdd, Nat.reduceLT, Nat.reduceLeDiff, Nat.reduceEqDiff, QlP, Ql2, Qmc, Qmb, Ql, QK, QL, Xj, Q0, aBin, QlD, QlE, Ql7, QlF, QlI, QlG, Ql4, Ql6, QlV, QlM, QlU, QS, QW, YA, Qma, QlL, QlH, T.Qk4, ti3, Xu, YW, Q5, w1, f1, f2, f3, f4, fb, m0, d0, T.Qk4, z0, z1, z2]) | (with_reducible (first | refine Qi fun K hK => ?_ | refine Qm ?_ | refine Qn ?_ | refine Qv ?_ | refine Qf ?_ | refine Qw ?_)) | ((with_reducible refine hK _ ?_); clear hK) | (refine Qj rfl ?_; simp only [↓reduceIte, QlH]))
      simp only [QN, Qp, Qu, upd, ↓reduceIte, QlJ, QlN]
      exact XC (Yf _ _) (.keep (.v _)) ⟨rfl, rfl⟩
    have z2 : (t.kind == 2) = true := by simp [k2]
    by_cases i0 : t.int = 0
    rotate_left
    · have y0 : (t.int != 0) = true := by simp [i0]
      have R : t.run b ((dn + 1 : Nat) : Int) = (false, b - 1) := by
        rw [T.run_eq, if_neg hn, if_neg k0, if_neg k1, if_pos k2, if_pos (.inl i0)]
      rw [R]
      refine Qh Tryz.func139 rfl Tryz.call139 Tryz.ntmps139 (congrArg Array.toList Tryz.results139) (by simp) ?_
      repeat (first | (((with_reducible refine Qa fun K E hK hE => ?_)); simp -implicitDefEqProofs only [Qd, Qb, Qg, OpW, aop, undef, AS.ev, Qc, QY, Qq, Qr, Qk, QD, QlK, Ql3, AV.Qk5, Qy, Q6, QM, Xy, QlX, QlY, QC, QA, QI, QlZ, Ql0, ↓reduceIte, QlQ, QlR, Nat.reduceAdd, Nat.reduceLT, Nat.reduceLeDiff, Nat.reduceEqDiff, QlP, Ql2, Qmc, Qmb, Ql, QK, QL, Xj, Q0, aBin, QlD, QlE, Ql7, QlF, QlI, QlG, Ql4, Ql6, QlV, QlM, QlU, QS, XA, QW, YA, Qma, QlL, QlH, beq_false, T.Qk4, ti3, Xu, XS, YW, Q5, w1, f1, f2, f3, f4, fb, m0, d0, T.Qk4, z0, z1, z2, y0]) | (with_reducible (first | refine Qi fun K hK => ?_ | refine Qm ?_ | refine Qn ?_ | refine Qv ?_ | refine Qf ?_ | refine QB ?_ | refine QH ?_)) | ((with_reducible refine hK _ ?_); clear hK) | (refine Qj rfl ?_; simp only [↓reduceIte, QlH]))
      simp only [QN, Qp, Qu, upd, ↓reduceIte, QlJ, QlN]
      exact XC (Yf _ _) (.keep (.v _)) ⟨rfl, rfl⟩
    have y0 : (t.int != 0) = false := by simp [i0]
    by_cases a6 : t.args.length > 6
    · have y6 : (t.args.length : Int) > 6 := by omega
      have R : t.run b ((dn + 1 : Nat) : Int) = (false, b - 1) := by
        rw [T.run_eq, if_neg hn, if_neg k0, if_neg k1, if_pos k2, if_pos (.inr a6)]
      rw [R]
      refine Qh Tryz.func139 rfl Tryz.call139 Tryz.ntmps139 (congrArg Array.toList Tryz.results139) (by simp) ?_
      repeat (first | (((with_reducible refine Qa fun K E hK hE => ?_)); simp -implicitDefEqProofs only [Qd, Qb, Qg, OpW, aop, undef, AS.ev, Qc, QY, Qq, Qr, Qk, QD, QlK, Ql3, AV.Qk5, Qy, Q6, QM, Xy, QlX, QlY, QC, QA, QI, QlZ, ↓reduceIte, QlQ, QlR, Nat.reduceAdd, Nat.reduceLT, Nat.reduceLeDiff, Nat.reduceEqDiff, QlP, Ql2, Qmc, Qmb, Ql, QK, QL, Xj, Q0, aBin, aLen, QlD, QlE, Ql7, QlF, QlI, QlG, Ql4, Ql6, QlV, QlM, QlU, QS, XA, QW, Q1, YA, goInt, Ql9, Qma, QlL, QlH, T.Qk4, QE, ti3, ti44, un44, Xu, XS, XN, YW, Q5, w1, f1, f2, f3, f4, fb, m0, d0, T.Qk4, z0, z1, z2, y0, y6, QE]) | (with_reducible (first | refine Qi fun K hK => ?_ | refine Qm ?_ | refine Qn ?_ | refine Qv ?_ | refine Qf ?_ | refine QB ?_ | refine QH ?_)) | ((with_reducible refine hK _ ?_); clear hK) | (refine Qj rfl ?_; simp only [↓reduceIte, QlH]))
      simp only [QN, Qp, Qu, upd, ↓reduceIte, QlJ, QlN]
      exact XC (Yf _ _) (.keep (.v _)) ⟨rfl, rfl⟩
    have y6 : ¬ (t.args.length : Int) > 6 := by omega
    have a6' : ¬ 6 < t.args.length := a6
    have cr := Qbl t.name
    have co := Qfg t.name
    have er : (decide (QbI 1 t.name) && !resB t.name) = Yv t.name := rfl
    rw [er] at cr
    have hind := fun b2 hb => Qjp dn (fun t b i h0 h1 => ih t b i (by omega) h0 h1) t.args (by omega) b2 i hb (fun t b hb h => T.Qlm t b dn hb h)
    have ca := (hind (b - 1) (by omega)).app hi [.cells 69 4 [t.av]]
    rw [fb, fb] at ca
    cases hr : Yv t.name with
    | true =>
      rw [hr] at cr
      have R : t.run b ((dn + 1 : Nat) : Int) = runL t.args (b - 1) (dn : Int) := by
        rw [T.run_eq, if_neg hn, if_neg k0, if_neg k1, if_pos k2, if_neg (show ¬ (t.int ≠ 0 ∨ 6 < t.args.length) by omega), hr, if_neg (by simp)]; rw [show (((dn + 1 : Nat) : Int) - 1) = (dn : Int) by omega]
      rw [R]
      refine Qh Tryz.func139 rfl Tryz.call139 Tryz.ntmps139 (congrArg Array.toList Tryz.results139) (by simp) ?_
      repeat (first | ((first | (with_reducible (first | refine Qa fun K E hK hE => ?_ | refine Qs cr ?_ | refine FunW.ret (FunW.call ca) ?_))); simp -implicitDefEqProofs only [Qd, Qb, Qg, OpW, QR, aop, undef, AS.ev, Qc, QY, Qq, Qr, Qk, QD, QlK, Ql3, AV.Qk5, Qy, Q6, QM, Xy, QlX, QlY, QC, QA, QI, QlZ, Ql0, ↓reduceIte, QlQ, QlR, Nat.reduceAdd, Nat.reduceLT, Nat.reduceLeDiff, Nat.reduceEqDiff, QlP, Ql2, Qmc, Qmb, Ql, QK, QL, Xj, Q0, aBin, aLen, QlD, QlE, Ql7, QlF, QlI, QlG, QlS, QlW, Ql4, Ql6, QlV, QlM, QlU, QS, XA, QW, Q1, YA, Xb, goInt, Qma, QlL, QlH, beq_true, T.Qk4, QE, ti3, ti9, ti44, un44, Xu, XS, XM, XN, YW, Q5, w1, f1, f2, f3, f4, fb, m0, d0, T.Qk4, z0, z1, z2, y0, y6, QE, wd]) | (with_reducible (first | refine Qi fun K hK => ?_ | refine Qm ?_ | refine Qn ?_ | refine Qv ?_ | refine Qf ?_ | refine QB ?_ | refine QH ?_)) | ((with_reducible refine hK _ ?_); clear hK) | (refine Qj rfl ?_; simp only [↓reduceIte, QlH]))
      simp only [QN, Qp, Qu, upd, ↓reduceIte, QlJ, QlN]
      exact XC (Yf _ _) (.keep (.v _)) ⟨rfl, rfl⟩
    | false =>
      rw [hr] at cr
      cases ho : opB t.name with
      | false =>
        rw [ho] at co
        have R : t.run b ((dn + 1 : Nat) : Int) = (false, b - 1) := by
          rw [T.run_eq, if_neg hn, if_neg k0, if_neg k1, if_pos k2, if_neg (show ¬ (t.int ≠ 0 ∨ 6 < t.args.length) by omega), hr, ho, if_pos (by simp)]
        rw [R]
        refine Qh Tryz.func139 rfl Tryz.call139 Tryz.ntmps139 (congrArg Array.toList Tryz.results139) (by simp) ?_
        repeat (first | ((first | (with_reducible (first | refine Qa fun K E hK hE => ?_ | refine Qs cr ?_ | refine Qs co ?_))); simp -implicitDefEqProofs only [Qd, Qb, Qg, OpW, QR, aop, undef, AS.ev, Qc, QY, Qq, Qr, Qk, QD, QlK, Ql3, AV.Qk5, Qy, Q6, QM, Xy, QlX, QlY, QC, QA, QI, QlZ, Ql1, ↓reduceIte, QlQ, QlR, Nat.reduceAdd, Nat.reduceLT, Nat.reduceLeDiff, Nat.reduceEqDiff, QlP, Ql2, Qmc, Qmb, Ql, QK, QL, Xj, Q0, aBin, aLen, QlD, QlE, Ql7, QlF, QlI, QlG, QlS, QlW, Ql4, Ql6, QlV, QlM, QlU, QS, XA, QW, Q1, YA, Xb, goInt, Qma, QlL, QlH, beq_true, T.Qk4, QE, ti3, ti9, ti44, un44, Xu, XS, XM, XN, YW, Q5, w1, f1, f2, f3, f4, fb, m0, d0, T.Qk4, z0, z1, z2, y0, y6, QE]) | (with_reducible (first | refine Qi fun K hK => ?_ | refine Qm ?_ | refine Qn ?_ | refine Qv ?_ | refine Qf ?_ | refine QB ?_ | refine QH ?_)) | ((with_reducible refine hK _ ?_); clear hK) | (refine Qj rfl ?_; simp only [↓reduceIte, QlH]))
        simp only [QN, Qp, Qu, upd, ↓reduceIte, QlJ, QlN]
        exact XC (Yf _ _) (.keep (.v _)) ⟨rfl, rfl⟩
      | true =>
        rw [ho] at co
        by_cases l2 : t.args.length = 2
        · have z3 : ((t.args.length : Int) == 2) = true := by simp [l2]
          have R : t.run b ((dn + 1 : Nat) : Int) = runL t.args (b - 1) (dn : Int) := by
            rw [T.run_eq, if_neg hn, if_neg k0, if_neg k1, if_pos k2, if_neg (show ¬ (t.int ≠ 0 ∨ 6 < t.args.length) by omega), hr, ho, if_neg (by simp [l2])]; rw [show (((dn + 1 : Nat) : Int) - 1) = (dn : Int) by omega]
          rw [R]
          refine Qh Tryz.func139 rfl Tryz.call139 Tryz.ntmps139 (congrArg Array.toList Tryz.results139) (by simp) ?_
          repeat (first | ((first | (with_reducible (first | refine Qa fun K E hK hE => ?_ | refine Qs cr ?_ | refine Qs co ?_ | refine FunW.ret (FunW.call ca) ?_))); simp -implicitDefEqProofs only [Qd, Qb, Qg, OpW, QR, aop, undef, AS.ev, Qc, QY, Qq, Qr, Qk, QD, QlK, Ql3, AV.Qk5, Qy, Q6, QM, Xy, QlX, QlY, QC, QA, QI, QlZ, Ql0, Ql1, ↓reduceIte, QlQ, QlR, Nat.reduceAdd, Nat.reduceLT, Nat.reduceLeDiff, Nat.reduceEqDiff, QlP, Ql2, Qmc, Qmb, Ql, QK, QL, Xj, Q0, aBin, aLen, QlD, QlE, Ql7, QlF, QlI, QlG, QlS, QlW, Ql4, Ql6, QlV, QlM, QlU, QS, XA, QW, Q1, YA, Xb, goInt, Qma, QlL, QlH, T.Qk4, QE, ti3, ti9, ti44, un44, Xu, XS, XM, XN, YW, Q5, w1, f1, f2, f3, f4, fb, m0, d0, T.Qk4, z0, z1, z2, y0, y6, QE, z3, wd]) | (with_reducible (first | refine Qi fun K hK => ?_ | refine Qm ?_ | refine Qn ?_ | refine Qv ?_ | refine Qf ?_ | refine QB ?_ | refine QH ?_)) | ((with_reducible refine hK _ ?_); clear hK) | (refine Qj rfl ?_; simp only [↓reduceIte, QlH]))
          simp only [QN, Qp, Qu, upd, ↓reduceIte, QlJ, QlN]
          exact XC (Yf _ _) (.keep (.v _)) ⟨rfl, rfl⟩
        · have z3 : ((t.args.length : Int) == 2) = false := by simp; omega
          have R : t.run b ((dn + 1 : Nat) : Int) = (false, b - 1) := by
            rw [T.run_eq, if_neg hn, if_neg k0, if_neg k1, if_pos k2, if_neg (show ¬ (t.int ≠ 0 ∨ 6 < t.args.length) by omega), hr, ho, if_pos (by simp [l2])]
          rw [R]
          refine Qh Tryz.func139 rfl Tryz.call139 Tryz.ntmps139 (congrArg Array.toList Tryz.results139) (by simp) ?_
          repeat (first | ((first | (with_reducible (first | refine Qa fun K E hK hE => ?_ | refine Qs cr ?_ | refine Qs co ?_))); simp -implicitDefEqProofs only [Qd, Qb, Qg, OpW, QR, aop, undef, AS.ev, Qc, QY, Qq, Qr, Qk, QD, QlK, Ql3, AV.Qk5, Qy, Q6, QM, Xy, QlX, QlY, QC, QA, QI, QlZ, Ql1, ↓reduceIte, QlQ, QlR, Nat.reduceAdd, Nat.reduceLT, Nat.reduceLeDiff, Nat.reduceEqDiff, QlP, Ql2, Qmc, Qmb, Ql, QK, QL, Xj, Q0, aBin, aLen, QlD, QlE, Ql7, QlF, QlI, QlG, QlS, QlW, Ql4, Ql6, QlV, QlM, QlU, QS, XA, QW, Q1, YA, Xb, goInt, Qma, QlL, QlH, T.Qk4, QE, ti3, ti9, ti44, un44, Xu, XS, XM, XN, YW, Q5, w1, f1, f2, f3, f4, fb, m0, d0, T.Qk4, z0, z1, z2, y0, y6, QE, z3]) | (with_reducible (first | refine Qi fun K hK => ?_ | refine Qm ?_ | refine Qn ?_ | refine Qv ?_ | refine Qf ?_ | refine QB ?_ | refine QH ?_)) | ((with_reducible refine hK _ ?_); clear hK) | (refine Qj rfl ?_; simp only [↓reduceIte, QlH]))
          simp only [QN, Qp, Qu, upd, ↓reduceIte, QlJ, QlN]
          exact XC (Yf _ _) (.keep (.v _)) ⟨rfl, rfl⟩
end Go.Proofs.YtenheconhibonaaGreatDoor.Ab
set_option maxRecDepth 4000
namespace Go.Proofs.YtenheconhibonaaGreatDoor.Ab
open Go.Proofs
theorem Chg.at {P : Program} {f : FuncId} {args : List AV} {i : Nat} {x y : AB} {r : AV} (H : Chg P f args i x r y) {h : AH} (hx : h[i]? = some x) : Yd P f args h fun o h' => o = .ret r ∧ h' = h.set i y := by
  have := H h (QT hx)
  rwa [Qky hx] at this
theorem Qkn (l : List T) (hl : l.length ≤ 1000) (h : AH) (i : Nat) (hx : h[i]? = some (.cells 149 1 [.agg [.i 200]])) : Yd Tryz.prog 101 [.ptr i 0 0, .sl 4 (avs l) none, .i 20] h
    fun o h' => o = .ret (.b (runL l 200 20).1) ∧ h' = h.set i (.cells 149 1 [.agg [.i (runL l 200 20).2]]) :=
  (Qjp 20 (fun t b i h0 h1 => Qi1 20 t b i (by omega) h0 h1) l hl 200 i (by omega) (fun t b hb h => T.Qlm t b 20 hb h)).at hx
def Q8 (g : G) : Bool := Yv g.name && (decide (g.args.length ≤ 6) && (runL g.args 200 20).1)
theorem ZL (g : G) : Pure Tryz.prog 80 [g.atom] (.b (Q8 g)) := by
  intro h
  have cr := Qbl g.name
  have er : (decide (QbI 1 g.name) && !resB g.name) = Yv g.name := rfl
  rw [er] at cr
  cases hr : Yv g.name with
  | false =>
    rw [hr] at cr
    refine Qh Tryz.func80 rfl Tryz.call80 Tryz.ntmps80 (congrArg Array.toList Tryz.results80) (by simp) ?_
    repeat (first | ((first | (with_reducible (first | refine Qa fun K E hK hE => ?_ | refine Qs cr ?_))); simp -implicitDefEqProofs only [Qd, Qb, Qg, OpW, QR, aop, undef, AS.ev, Qc, Qq, Qr, Qk, QD, QlK, AV.Qk5, Qy, Q6, QM, QlX, QlY, QC, QA, QI, QlZ, ↓reduceIte, QlQ, QlR, Nat.reduceAdd, Nat.reduceLT, Nat.reduceLeDiff, Nat.reduceEqDiff, QlP, Ql2, Qmb, Ql, QK, QL, Zp, ZB, QO, hlen, happ, QlD, QlE, QlF, QlI, QlG, QlS, QlW, Ql5, Ql4, Ql6, QlV, QlM, QlU, QlH, beq_true, ti9, YQ, QfJ, QfS, XB]) | (with_reducible refine Qn ?_) | ((with_reducible refine hK _ ?_); clear hK))
    simp only [QN, Qp, Qu, upd, ↓reduceIte, QlJ, QlN]; first | refine Qe (htake _ _) (.keep (.v _)) ⟨by rw [Q8, hr]; rfl, rfl⟩ | refine Qe List.take_length (.keep (.v _)) ⟨by rw [Q8, hr]; rfl, rfl⟩
  | true =>
    rw [hr] at cr
    by_cases hl : (g.args.length : Int) ≤ 6
    · have hl' : decide (g.args.length ≤ 6) = true := decide_eq_true (by omega)
      have ca := Qkn g.args (by omega) (h ++ [.cells 66 2 [g.atom], .cells 149 1 [.agg [.i 200]]]) (h.length + 1) (by rw [hget]; rfl)
      rw [hset] at ca
      refine Qh Tryz.func80 rfl Tryz.call80 Tryz.ntmps80 (congrArg Array.toList Tryz.results80) (by simp) ?_
      repeat (first | ((first | (with_reducible (first | refine Qa fun K E hK hE => ?_ | refine Qs cr ?_ | refine FunW.ret (FunW.call ca) ?_))); simp -implicitDefEqProofs only [Qd, Qb, Qg, OpW, QR, aop, undef, AS.ev, Qc, Qq, Qr, Qk, QD, QlK, AV.Qk5, Qy, Q6, QM, QlX, QlY, QC, QA, QI, QlZ, ↓reduceIte, QlQ, QlR, Nat.reduceAdd, Nat.reduceLT, Nat.reduceLeDiff, Nat.reduceEqDiff, QlP, Ql2, Qmb, Ql, QK, QL, aBin, Zp, ZB, aLen, QO, hlen, happ, QlD, QlE, Ql7, Ql8, QlF, QlI, QlG, QlS, QlW, Ql5, Ql4, Ql6, QlV, QlM, QlU, X5, goInt, Ql9, QlL, QE, ti9, ti44, un44, YQ, YM, QfJ, QfS, XB, hl, QE]) | (with_reducible refine Qn ?_) | ((with_reducible refine hK _ ?_); clear hK))
      simp only [QN, Qp, Qu, upd, ↓reduceIte, QlJ, QlN]; first | refine Qe (htake _ _) (.keep (.v _)) ⟨by rw [Q8, hr, hl']; rfl, rfl⟩ | refine Qe List.take_length (.keep (.v _)) ⟨by rw [Q8, hr, hl']; rfl, rfl⟩
    · have hl' : decide (g.args.length ≤ 6) = false := decide_eq_false (by omega)
      refine Qh Tryz.func80 rfl Tryz.call80 Tryz.ntmps80 (congrArg Array.toList Tryz.results80) (by simp) ?_
      repeat (first | ((first | (with_reducible (first | refine Qa fun K E hK hE => ?_ | refine Qs cr ?_))); simp -implicitDefEqProofs only [Qd, Qb, Qg, OpW, QR, aop, undef, AS.ev, Qc, Qq, Qr, Qk, QD, QlK, AV.Qk5, Qy, Q6, QM, QlX, QlY, QC, QA, QI, QlZ, ↓reduceIte, QlQ, QlR, Nat.reduceAdd, Nat.reduceLT, Nat.reduceLeDiff, Nat.reduceEqDiff, QlP, Ql2, Qmb, Ql, QK, QL, aBin, Zp, ZB, aLen, QO, hlen, happ, QlD, QlE, QlF, QlI, QlG, QlS, QlW, Ql5, Ql4, Ql6, QlV, QlM, QlU, X5, goInt, Qma, QlL, QlH, beq_true, QE, ti9, ti44, un44, YQ, YM, QfJ, QfS, XB, hl, QE]) | (with_reducible refine Qn ?_) | ((with_reducible refine hK _ ?_); clear hK))
      simp only [QN, Qp, Qu, upd, ↓reduceIte, QlJ, QlN]; first | refine Qe (htake _ _) (.keep (.v _)) ⟨by rw [Q8, hr, hl']; rfl, rfl⟩ | refine Qe List.take_length (.keep (.v _)) ⟨by rw [Q8, hr, hl']; rfl, rfl⟩
def ZY (op : Int) : Int := if op = 1 ∨ op = 2 then 0 else if op = 11 ∨ op = 12 then 1 else 2
def Q4 (g : G) : Bool := if g.op = 0 then Q8 ⟨0, g.name, g.args⟩ else
  decide (0 < g.op ∧ g.op ≤ 12) && (Yr g.name && (decide ((g.args.length : Int) = ZY g.op) && (runL g.args 200 20).1))
end Go.Proofs.YtenheconhibonaaGreatDoor.Ab
set_option maxRecDepth 4000
namespace Go.Proofs.YtenheconhibonaaGreatDoor.Ab
open Go.Proofs
theorem Y1 {s : ByteArray} (h : Yv s = true) : 1 ≤ s.size ∧ s.size ≤ 40 := by
  rw [Yv, Bool.and_eq_true, decide_eq_true_eq] at h
  exact ⟨h.1.1, h.1.2.1⟩
theorem Qcr (b : Bool) (x : ByteArray) : (encB b x).size ≤ x.size + 2 := by
  rw [encB]; split
  · rw [Qt, Qt]; have : lpa.size = 1 := rfl; have : rpa.size = 1 := rfl; omega
  · omega
theorem Qc8 (l : List ByteArray) : ∀ f, (XV f l).size ≤ (l.map fun x => x.size + 2).sum := by
  induction l with
  | nil => intro f; rw [XV]; simp
  | cons x l ih =>
    intro f
    have h1 := ih false
    rw [Qer f _ x l rfl, List.map_cons, List.sum_cons]
    split <;> omega
theorem Qj4 (t : ByteArray) : (vOf t).size = t.size + 1 := by rw [vOf, Qt]; have : ({ data := #[86] } : ByteArray).size = 1 := rfl; omega
theorem Qaz {s : ByteArray} (h : Yr s = true) : s.size = 0 := by
  rw [Yr, Qcn, decide_eq_true_eq] at h
  exact h
mutual
theorem T.Qls : ∀ (t : T) (b d : Int), (t.run b d).1 = true → t.lex ∧ (t.txt.size : Int) + 4 ≤ 60 * (b - (t.run b d).2) ∧ 0 < t.txt.size ∧ (t.run b d).2 ≤ b
  | .mk k i n l, b, d, h => by
    rw [T.run] at h ⊢
    split at h
    · cases h
    rename_i h1
    rw [if_neg h1]
    split at h
    · rename_i k0
      subst k0
      rw [if_pos rfl]
      simp only [Bool.and_eq_true, decide_eq_true_eq] at h
      obtain ⟨⟨hr, hn⟩, hl⟩ := h
      have hl' : l = [] := by simpa using hl
      subst hl'
      have hn' := Qaz hn
      have hz := Qb4 i (by omega) (by omega)
      have hp := Qj6 i
      have et : (T.mk 0 i n []).txt = decZ i := by rw [T.txt, if_neg (by simp [T.oper, T.kind]), if_pos rfl]
      rw [et]
      refine ⟨⟨fun _ => by omega, fun e => (by cases e), by simp, by omega, trivial⟩, ?_, hp, ?_⟩ <;> simp only <;> omega
    · rename_i k0
      rw [if_neg k0]
      split at h
      · rename_i k1
        subst k1
        rw [if_pos rfl]
        simp only [Bool.and_eq_true, decide_eq_true_eq] at h
        obtain ⟨⟨hr, hn⟩, hl⟩ := h
        have hl' : l = [] := by simpa using hl
        subst hl'
        have hn' := Qaz hn
        have hz := Qfj (n := i.toNat) (by omega)
        have et : (T.mk 1 i n []).txt = vOf (decN i.toNat) := by rw [T.txt, if_neg (by simp [T.oper, T.kind]), if_neg k0, if_pos rfl]
        rw [et, Qj4]
        refine ⟨⟨fun e => (by cases e), fun _ => hr, by simp, by omega, trivial⟩, ?_, by omega, ?_⟩ <;> simp only <;> omega
      · rename_i k1
        rw [if_neg k1]
        split at h
        · rename_i k2
          subst k2
          rw [if_pos rfl]
          split at h
          · cases h
          rename_i h3
          rw [if_neg h3]
          split at h
          · cases h
          rename_i h4
          rw [if_neg h4]
          have hL := Qcg l (b - 1) (d - 1) h
          have hll : l.length ≤ 6 := by omega
          have hns : 1 ≤ n.size ∧ n.size ≤ 40 := by
            simp only [Bool.not_eq_true', Bool.and_eq_true, not_and, Bool.not_eq_false, decide_eq_true_eq] at h4
            cases hrb : Yv n with
            | true => exact Y1 hrb
            | false =>
              rw [hrb] at h4
              have hop : opB n = true := by
                cases ho : opB n with
                | true => rfl
                | false => rw [ho] at h4; simp at h4
              by_cases hs1 : n.size = 1
              · omega
              · rw [Qc5 hs1] at hop; cases hop
          refine ⟨⟨fun e => (by cases e), fun e => (by cases e), by omega, by omega, hL.1⟩, ?_⟩
          by_cases ho : (T.mk 2 i n l).oper = 0
          · have et : (T.mk 2 i n l).txt = funT n (txts l) := by rw [T.txt, if_neg (by simpa using ho), if_neg k0, if_neg k1]
            rw [et, funT, Qt]
            have e1 := Qcr (decide (0 < (txts l).length)) (XV true (txts l))
            have e2 := Qc8 (txts l) true
            have e3 := hL.2.1
            refine ⟨?_, ?_, ?_⟩ <;> omega
          · have hk : l.length = 2 := by
              simp only [T.oper] at ho
              split at ho
              · exact absurd rfl ho
              · rename_i hq; exact Decidable.byContradiction fun e => hq (.inr e)
            match l, hk, hL with
            | [a, c], _, hL =>
              have et : (T.mk 2 i n [a, c]).txt = binT (ofB n) n a.oper c.oper a.txt c.txt := by rw [T.txt, if_pos ho]; rfl
              rw [et, binT]
              simp only [Qt]
              have hsp : ({ data := #[32] } : ByteArray).size = 1 := rfl
              have e1 := Qcr ((a.oper == 1) && (ofB n == 2)) a.txt
              have e2 := Qcr ((c.oper != 0) && ((c.oper == 1) || (ofB n == 2))) c.txt
              have e3 := hL.2.1
              have e4 := hL.2.2
              simp only [txts, QlS, QlW, List.sum_cons, List.sum_nil] at e3
              refine ⟨?_, ?_, ?_⟩ <;> omega
        · cases h
theorem Qcg : ∀ (l : List T) (b d : Int), (runL l b d).1 = true → lexL l ∧ ((((txts l).map fun x => x.size + 2).sum : Nat) : Int) ≤ 60 * (b - (runL l b d).2) ∧ (runL l b d).2 ≤ b
  | [], b, d, h => by rw [runL]; exact ⟨trivial, by simp [txts], Int.le_refl _⟩
  | t :: l, b, d, h => by
    rw [runL] at h ⊢
    split at h
    · rename_i h1
      rw [if_pos h1]
      have ht := T.Qls t b d h1
      have hl := Qcg l _ d h
      refine ⟨⟨ht.1, hl.1⟩, ?_, ?_⟩
      · rw [txts, List.map_cons, List.sum_cons]
        have := hl.2.1
        have := ht.2.1
        omega
      · have := hl.2.2; have := ht.2.2.2; omega
    · cases h
end
end Go.Proofs.YtenheconhibonaaGreatDoor.Ab
set_option maxRecDepth 4000
namespace Go.Proofs.YtenheconhibonaaGreatDoor.Ab
open Go.Proofs
def Qc2 (op : Int) : ByteArray := if op = 3 then { data := #[61] } else if op = 4 then { data := #[105, 115] } else if op = 5 then { data := #[61, 61] } else if op = 6 then { data := #[92, 61] } else if op = 7 then { data := #[60] } else if op = 8 then { data := #[61, 60] } else if op = 9 then { data := #[61, 58, 61] } else { data := #[61, 92, 61] }
theorem QiP : Pure Tryz.prog 87 [.i 3] (.v (.string { data := #[61] })) := by
  intro h
  refine Qh Tryz.func87 rfl Tryz.call87 Tryz.ntmps87 (congrArg Array.toList Tryz.results87) (by simp) ?_
  repeat (first | (((with_reducible refine Qa fun K E hK hE => ?_)); simp -implicitDefEqProofs only [Qd, Qb, Qg, OpW, aop, undef, AS.ev, Qc, Qq, QF, Qk, QD, QlK, ↓reduceIte, Nat.reduceLT, Nat.reduceEqDiff, aBin, QlF, QS, QlL]) | (with_reducible (first | refine Qi fun K hK => ?_ | refine Qm ?_ | refine Qn ?_ | refine QB ?_ | refine QH ?_)) | ((with_reducible refine hK _ ?_); clear hK) | (refine Qj rfl ?_; simp only [↓reduceIte]))
  simp only [QN, Qp, Qu, upd, ↓reduceIte, QlJ, QlN]; first | refine Qe (htake _ _) (.keep (.v _)) ⟨rfl, rfl⟩ | refine Qe List.take_length (.keep (.v _)) ⟨rfl, rfl⟩
theorem Qix : Pure Tryz.prog 87 [.i 4] (.v (.string { data := #[105, 115] })) := by
  intro h
  have z3 : ((4 : Int) == 3) = false := by decide
  refine Qh Tryz.func87 rfl Tryz.call87 Tryz.ntmps87 (congrArg Array.toList Tryz.results87) (by simp) ?_
  repeat (first | (((with_reducible refine Qa fun K E hK hE => ?_)); simp -implicitDefEqProofs only [Qd, Qb, Qg, OpW, aop, undef, AS.ev, Qc, Qq, QF, Qk, QD, QlK, ↓reduceIte, Nat.reduceLT, Nat.reduceEqDiff, aBin, QlF, QS, QlL, z3]) | (with_reducible (first | refine Qi fun K hK => ?_ | refine Qm ?_ | refine Qn ?_ | refine QB ?_ | refine QH ?_)) | ((with_reducible refine hK _ ?_); clear hK) | (refine Qj rfl ?_; simp only [↓reduceIte, QlH]))
  simp only [QN, Qp, Qu, upd, ↓reduceIte, QlJ, QlN]; first | refine Qe (htake _ _) (.keep (.v _)) ⟨rfl, rfl⟩ | refine Qe List.take_length (.keep (.v _)) ⟨rfl, rfl⟩
theorem Qjy : Pure Tryz.prog 87 [.i 5] (.v (.string { data := #[61, 61] })) := by
  intro h
  have z3 : ((5 : Int) == 3) = false := by decide
  have z4 : ((5 : Int) == 4) = false := by decide
  refine Qh Tryz.func87 rfl Tryz.call87 Tryz.ntmps87 (congrArg Array.toList Tryz.results87) (by simp) ?_
  repeat (first | (((with_reducible refine Qa fun K E hK hE => ?_)); simp -implicitDefEqProofs only [Qd, Qb, Qg, OpW, aop, undef, AS.ev, Qc, Qq, QF, Qk, QD, QlK, ↓reduceIte, Nat.reduceLT, Nat.reduceEqDiff, aBin, QlF, QS, QlL, z3, z4]) | (with_reducible (first | refine Qi fun K hK => ?_ | refine Qm ?_ | refine Qn ?_ | refine QB ?_ | refine QH ?_)) | ((with_reducible refine hK _ ?_); clear hK) | (refine Qj rfl ?_; simp only [↓reduceIte, QlH]))
  simp only [QN, Qp, Qu, upd, ↓reduceIte, QlJ, QlN]; first | refine Qe (htake _ _) (.keep (.v _)) ⟨rfl, rfl⟩ | refine Qe List.take_length (.keep (.v _)) ⟨rfl, rfl⟩
theorem Qi8 : Pure Tryz.prog 87 [.i 6] (.v (.string { data := #[92, 61] })) := by
  intro h
  have z3 : ((6 : Int) == 3) = false := by decide
  have z4 : ((6 : Int) == 4) = false := by decide
  have z5 : ((6 : Int) == 5) = false := by decide
  refine Qh Tryz.func87 rfl Tryz.call87 Tryz.ntmps87 (congrArg Array.toList Tryz.results87) (by simp) ?_
  repeat (first | (((with_reducible refine Qa fun K E hK hE => ?_)); simp -implicitDefEqProofs only [Qd, Qb, Qg, OpW, aop, undef, AS.ev, Qc, Qq, QF, Qk, QD, QlK, ↓reduceIte, Nat.reduceLT, Nat.reduceEqDiff, aBin, QlF, QS, QlL, z3, z4, z5]) | (with_reducible (first | refine Qi fun K hK => ?_ | refine Qm ?_ | refine Qn ?_ | refine QB ?_ | refine QH ?_)) | ((with_reducible refine hK _ ?_); clear hK) | (refine Qj rfl ?_; simp only [↓reduceIte, QlH]))
  simp only [QN, Qp, Qu, upd, ↓reduceIte, QlJ, QlN]; first | refine Qe (htake _ _) (.keep (.v _)) ⟨rfl, rfl⟩ | refine Qe List.take_length (.keep (.v _)) ⟨rfl, rfl⟩
theorem Qju : Pure Tryz.prog 87 [.i 7] (.v (.string { data := #[60] })) := by
  intro h
  have z3 : ((7 : Int) == 3) = false := by decide
  have z4 : ((7 : Int) == 4) = false := by decide
  have z5 : ((7 : Int) == 5) = false := by decide
  have z6 : ((7 : Int) == 6) = false := by decide
  refine Qh Tryz.func87 rfl Tryz.call87 Tryz.ntmps87 (congrArg Array.toList Tryz.results87) (by simp) ?_
  repeat (first | (((with_reducible refine Qa fun K E hK hE => ?_)); simp -implicitDefEqProofs only [Qd, Qb, Qg, OpW, aop, undef, AS.ev, Qc, Qq, QF, Qk, QD, QlK, ↓reduceIte, Nat.reduceLT, Nat.reduceEqDiff, aBin, QlF, QS, QlL, z3, z4, z5, z6]) | (with_reducible (first | refine Qi fun K hK => ?_ | refine Qm ?_ | refine Qn ?_ | refine QB ?_ | refine QH ?_)) | ((with_reducible refine hK _ ?_); clear hK) | (refine Qj rfl ?_; simp only [↓reduceIte, QlH]))
  simp only [QN, Qp, Qu, upd, ↓reduceIte, QlJ, QlN]; first | refine Qe (htake _ _) (.keep (.v _)) ⟨rfl, rfl⟩ | refine Qe List.take_length (.keep (.v _)) ⟨rfl, rfl⟩
theorem Qiz : Pure Tryz.prog 87 [.i 8] (.v (.string { data := #[61, 60] })) := by
  intro h
  have z3 : ((8 : Int) == 3) = false := by decide
  have z4 : ((8 : Int) == 4) = false := by decide
  have z5 : ((8 : Int) == 5) = false := by decide
  have z6 : ((8 : Int) == 6) = false := by decide
  have z7 : ((8 : Int) == 7) = false := by decide
  refine Qh Tryz.func87 rfl Tryz.call87 Tryz.ntmps87 (congrArg Array.toList Tryz.results87) (by simp) ?_
  repeat (first | (((with_reducible refine Qa fun K E hK hE => ?_)); simp -implicitDefEqProofs only [Qd, Qb, Qg, OpW, aop, undef, AS.ev, Qc, Qq, QF, Qk, QD, QlK, ↓reduceIte, Nat.reduceLT, Nat.reduceEqDiff, aBin, QlF, QS, QlL, z3, z4, z5, z6, z7]) | (with_reducible (first | refine Qi fun K hK => ?_ | refine Qm ?_ | refine Qn ?_ | refine QB ?_ | refine QH ?_)) | ((with_reducible refine hK _ ?_); clear hK) | (refine Qj rfl ?_; simp only [↓reduceIte, QlH]))
  simp only [QN, Qp, Qu, upd, ↓reduceIte, QlJ, QlN]; first | refine Qe (htake _ _) (.keep (.v _)) ⟨rfl, rfl⟩ | refine Qe List.take_length (.keep (.v _)) ⟨rfl, rfl⟩
theorem QiA : Pure Tryz.prog 87 [.i 9] (.v (.string { data := #[61, 58, 61] })) := by
  intro h
  have z3 : ((9 : Int) == 3) = false := by decide
  have z4 : ((9 : Int) == 4) = false := by decide
  have z5 : ((9 : Int) == 5) = false := by decide
  have z6 : ((9 : Int) == 6) = false := by decide
  have z7 : ((9 : Int) == 7) = false := by decide
  have z8 : ((9 : Int) == 8) = false := by decide
  refine Qh Tryz.func87 rfl Tryz.call87 Tryz.ntmps87 (congrArg Array.toList Tryz.results87) (by simp) ?_
  repeat (first | (((with_reducible refine Qa fun K E hK hE => ?_)); simp -implicitDefEqProofs only [Qd, Qb, Qg, OpW, aop, undef, AS.ev, Qc, Qq, QF, Qk, QD, QlK, ↓reduceIte, Nat.reduceLT, Nat.reduceEqDiff, aBin, QlF, QS, QlL, z3, z4, z5, z6, z7, z8]) | (with_reducible (first | refine Qi fun K hK => ?_ | refine Qm ?_ | refine Qn ?_ | refine QB ?_ | refine QH ?_)) | ((with_reducible refine hK _ ?_); clear hK) | (refine Qj rfl ?_; simp only [↓reduceIte, QlH]))
  simp only [QN, Qp, Qu, upd, ↓reduceIte, QlJ, QlN]; first | refine Qe (htake _ _) (.keep (.v _)) ⟨rfl, rfl⟩ | refine Qe List.take_length (.keep (.v _)) ⟨rfl, rfl⟩
theorem Qii : Pure Tryz.prog 87 [.i 10] (.v (.string { data := #[61, 92, 61] })) := by
  intro h
  have z3 : ((10 : Int) == 3) = false := by decide
  have z4 : ((10 : Int) == 4) = false := by decide
  have z5 : ((10 : Int) == 5) = false := by decide
  have z6 : ((10 : Int) == 6) = false := by decide
  have z7 : ((10 : Int) == 7) = false := by decide
  have z8 : ((10 : Int) == 8) = false := by decide
  have z9 : ((10 : Int) == 9) = false := by decide
  refine Qh Tryz.func87 rfl Tryz.call87 Tryz.ntmps87 (congrArg Array.toList Tryz.results87) (by simp) ?_
  repeat (first | (((with_reducible refine Qa fun K E hK hE => ?_)); simp -implicitDefEqProofs only [Qd, Qb, Qg, OpW, aop, undef, AS.ev, Qc, Qq, QF, Qk, QD, QlK, ↓reduceIte, Nat.reduceLT, Nat.reduceEqDiff, aBin, QlF, QS, QlL, z3, z4, z5, z6, z7, z8, z9]) | (with_reducible (first | refine Qi fun K hK => ?_ | refine Qm ?_ | refine Qn ?_ | refine QB ?_ | refine QH ?_)) | ((with_reducible refine hK _ ?_); clear hK) | (refine Qj rfl ?_; simp only [↓reduceIte, QlH]))
  simp only [QN, Qp, Qu, upd, ↓reduceIte, QlJ, QlN]; first | refine Qe (htake _ _) (.keep (.v _)) ⟨rfl, rfl⟩ | refine Qe List.take_length (.keep (.v _)) ⟨rfl, rfl⟩
theorem Qgm (op : Int) (h3 : 3 ≤ op) (h10 : op ≤ 10) : Pure Tryz.prog 87 [.i op] (.v (.string (Qc2 op))) := by
  have : op = 3 ∨ op = 4 ∨ op = 5 ∨ op = 6 ∨ op = 7 ∨ op = 8 ∨ op = 9 ∨ op = 10 := by omega
  rcases this with rfl | rfl | rfl | rfl | rfl | rfl | rfl | rfl
  · exact QiP
  · exact Qix
  · exact Qjy
  · exact Qi8
  · exact Qju
  · exact Qiz
  · exact QiA
  · exact Qii
theorem QeD (op : Int) (h3 : 3 ≤ op) (h10 : op ≤ 10) : (Qc2 op).size ≤ 3 := by
  have : op = 3 ∨ op = 4 ∨ op = 5 ∨ op = 6 ∨ op = 7 ∨ op = 8 ∨ op = 9 ∨ op = 10 := by omega
  rcases this with rfl | rfl | rfl | rfl | rfl | rfl | rfl | rfl <;> decide
abbrev QeJ : ByteArray := { data := #[116, 114, 117, 101] }
abbrev QiM : ByteArray := { data := #[102, 97, 105, 108] }
abbrev intB : ByteArray := { data := #[105, 110, 116] }
abbrev grdB : ByteArray := { data := #[103, 114, 111, 117, 110, 100] }
def pairT (op : Int) : List ByteArray → ByteArray
  | [x, y] => (x ++ (({ data := #[32] } : ByteArray) ++ Qc2 op ++ { data := #[32] })) ++ y
  | _ => .empty
def ZO (g : G) : ByteArray := if g.op = 0 then funT g.name (txts g.args) else if g.op = 1 then QeJ else if g.op = 2 then QiM else if g.op = 11 then funT intB (txts g.args) else if g.op = 12 then funT grdB (txts g.args) else pairT g.op (txts g.args)
theorem QkS {h : AH} (hG : XO h) (u : Bool) (tx : ByteArray) : XO (HB (h ++ [AB.dead, AB.dead]) h.length (h.length + 1) u tx) := by
  obtain ⟨k, ty, fr, e⟩ := hG
  refine ⟨k, ty, fr, ?_⟩
  have hk := QT e
  rw [HB, YI _ _ (by omega) (by omega), List.getElem?_append_left hk, e]
section
variable {h : AH} {i j p : Nat} (hi : i < h.length) (hj : j < h.length) (hij : i ≠ j) (hpi : i ≠ p) (hpj : j ≠ p)
theorem Qjz (hi : i < h.length) (hj : j < h.length) (hij : i ≠ j) (hpi : i ≠ p) (hpj : j ≠ p) (g : G) (gp : h[p]? = some (.cells 66 2 [g.atom])) (hx : lexL g.args) (hl : g.args.length ≤ 1000000)
    (hG : XO (HB h i j true (.empty))) (u : Bool) (tx : ByteArray) (hs : tx.size + (funT g.name (txts g.args)).size ≤ 140737488355328) :
    Wri 83 [.ptr i 0 0, .ptr p 0 0] h i j u tx (funT g.name (txts g.args)) := by
  have k1 : ∀ u tx, (HB h i j u tx)[p]? = some (.cells 66 2 [.agg [.v (.string g.name), .sl 4 (avs g.args) none]]) := fun u tx => by
    rw [HB, YI _ _ hpi hpj, gp]; rfl
  have c1 := Z3 hi hj hij g.args hl g.name (fun a ha h hi hj hG tx hs => Qbn g.args hx i j hij a ha h hi hj hG true tx hs) hG u tx hs
  rw [Wri] at c1
  refine Qh Tryz.func83 rfl Tryz.call83 Tryz.ntmps83 (congrArg Array.toList Tryz.results83) (by simp) ?_
  repeat (first | ((first | (with_reducible (first | refine Qo fun K E hK hE => ?_ | refine FunW.ret (FunW.call c1) ?_))); simp -implicitDefEqProofs only [Qd, Qb, Qg, OpW, QR, aop, undef, AS.ev, Qc, Qk, QD, QlK, Ql3, Qy, ↓reduceIte, Nat.reduceLT, Nat.reduceEqDiff, QlP, Ql2, Ql, QK, QL, QlD, QlE, QlF, QlS, QlW, ti9, ti44, YQ, YM, k1]) | ((with_reducible refine hK _ ?_); clear hK))
  simp -implicitDefEqProofs only [QlF, QlJ, List.mapM_nil, Option.pure_def, QlF, QN, Qp, QlN]
  exact .inr ⟨rfl, rfl⟩
theorem Qip (hi : i < h.length) (hj : j < h.length) (hij : i ≠ j) (hpi : i ≠ p) (hpj : j ≠ p) (g : G) (gp : h[p]? = some (.cells 53 3 [g.goal])) (hx : lexL g.args) (hl : g.args.length ≤ 1000000) (ho : g.op = 0)
    (hG : XO (HB h i j true (.empty))) (u : Bool) (tx : ByteArray) (hs : tx.size + (funT g.name (txts g.args)).size ≤ 140737488355328) :
    Wri 85 [.ptr i 0 0, .ptr p 0 0] h i j u tx (funT g.name (txts g.args)) := by
  have k1 : ∀ u tx, (HB h i j u tx)[p]? = some (.cells 53 3 [.agg [.i 0, .v (.string g.name), .sl 4 (avs g.args) none]]) := fun u tx => by
    rw [HB, YI _ _ hpi hpj, gp, ← ho]; rfl
  have c1 := Z3 hi hj hij g.args hl g.name (fun a ha h hi hj hG tx hs => Qbn g.args hx i j hij a ha h hi hj hG true tx hs) hG u tx hs
  rw [Wri] at c1
  refine Qh Tryz.func85 rfl Tryz.call85 Tryz.ntmps85 (congrArg Array.toList Tryz.results85) (by simp) ?_
  repeat (first | ((first | (with_reducible (first | refine Qa fun K E hK hE => ?_ | refine Qo fun K E hK hE => ?_ | refine FunW.ret (FunW.call c1) ?_))); simp -implicitDefEqProofs only [Qd, Qb, Qg, OpW, QR, aop, undef, AS.ev, Qc, Qq, Qk, QD, QlK, Ql3, Qy, ↓reduceIte, Nat.reduceLT, Nat.reduceEqDiff, QlP, Ql2, Ql, QK, QL, aBin, QlD, QlE, QlF, QlS, QlW, QS, QlL, ti3, ti9, ti44, XG, Yy, Ya, k1]) | (with_reducible (first | refine Qm ?_ | refine Qw ?_)) | ((with_reducible refine hK _ ?_); clear hK) | (refine Qj rfl ?_; simp only [↓reduceIte]))
  simp -implicitDefEqProofs only [QlF, QlJ, List.mapM_nil, Option.pure_def, QlF, QN, Qp, QlN]
  exact .inr ⟨rfl, rfl⟩
theorem Qio (hi : i < h.length) (hj : j < h.length) (hij : i ≠ j) (hpi : i ≠ p) (hpj : j ≠ p) (g : G) (gp : h[p]? = some (.cells 53 3 [g.goal])) (hx : lexL g.args) (hl : g.args.length ≤ 1000000) (ho : g.op = 1)
    (hG : XO (HB h i j true (.empty))) (u : Bool) (tx : ByteArray) (hs : tx.size + (QeJ).size ≤ 140737488355328) :
    Wri 85 [.ptr i 0 0, .ptr p 0 0] h i j u tx (QeJ) := by
  have k1 : ∀ u tx, (HB h i j u tx)[p]? = some (.cells 53 3 [.agg [.i 1, .v (.string g.name), .sl 4 (avs g.args) none]]) := fun u tx => by
    rw [HB, YI _ _ hpi hpj, gp, ← ho]; rfl
  have z0 : ((1 : Int) == 0) = false := by decide
  have c1 := wstr hi hj hij u tx QeJ hs
  have f6 := fun u tx => Qhb (h := h) hi hij u tx
  refine Qh Tryz.func85 rfl Tryz.call85 Tryz.ntmps85 (congrArg Array.toList Tryz.results85) (by simp) ?_
  repeat (first | ((first | (with_reducible (first | refine Qa fun K E hK hE => ?_ | refine Qo fun K E hK hE => ?_ | refine FunW.ret (FunW.call c1) ?_))); simp -implicitDefEqProofs only [Qd, Qb, Qg, OpW, QR, aop, undef, AS.ev, Qc, Qq, QF, Qk, QD, QlK, Ql3, Qy, ↓reduceIte, Nat.reduceLT, Nat.reduceEqDiff, Ql2, Ql, QK, QL, aBin, QlD, QlF, QlS, QlW, QS, QlL, ti3, XG, YO, Q5, k1, f6, z0]) | (with_reducible (first | refine Qm ?_ | refine Qw ?_)) | ((with_reducible refine hK _ ?_); clear hK) | (refine Qj rfl ?_; simp only [↓reduceIte, QlH]))
  simp -implicitDefEqProofs only [QlF, QlJ, List.mapM_nil, Option.pure_def, QlF, QN, Qp, QlN]
  exact .inr ⟨rfl, rfl⟩
theorem Qh5 (hi : i < h.length) (hj : j < h.length) (hij : i ≠ j) (hpi : i ≠ p) (hpj : j ≠ p) (g : G) (gp : h[p]? = some (.cells 53 3 [g.goal])) (hx : lexL g.args) (hl : g.args.length ≤ 1000000) (ho : g.op = 2)
    (hG : XO (HB h i j true (.empty))) (u : Bool) (tx : ByteArray) (hs : tx.size + (QiM).size ≤ 140737488355328) :
    Wri 85 [.ptr i 0 0, .ptr p 0 0] h i j u tx (QiM) := by
  have k1 : ∀ u tx, (HB h i j u tx)[p]? = some (.cells 53 3 [.agg [.i 2, .v (.string g.name), .sl 4 (avs g.args) none]]) := fun u tx => by
    rw [HB, YI _ _ hpi hpj, gp, ← ho]; rfl
  have z0 : ((2 : Int) == 0) = false := by decide
  have z1 : ((2 : Int) == 1) = false := by decide
  have c1 := wstr hi hj hij u tx QiM hs
  have f6 := fun u tx => Qhb (h := h) hi hij u tx
  refine Qh Tryz.func85 rfl Tryz.call85 Tryz.ntmps85 (congrArg Array.toList Tryz.results85) (by simp) ?_
  repeat (first | ((first | (with_reducible (first | refine Qa fun K E hK hE => ?_ | refine Qo fun K E hK hE => ?_ | refine FunW.ret (FunW.call c1) ?_))); simp -implicitDefEqProofs only [Qd, Qb, Qg, OpW, QR, aop, undef, AS.ev, Qc, Qq, QF, Qk, QD, QlK, Ql3, Qy, ↓reduceIte, Nat.reduceLT, Nat.reduceEqDiff, Ql2, Ql, QK, QL, aBin, QlD, QlF, QlS, QlW, QS, QlL, ti3, XG, YO, Q5, k1, f6, z0, z1]) | (with_reducible (first | refine Qm ?_ | refine Qw ?_)) | ((with_reducible refine hK _ ?_); clear hK) | (refine Qj rfl ?_; simp only [↓reduceIte, QlH]))
  simp -implicitDefEqProofs only [QlF, QlJ, List.mapM_nil, Option.pure_def, QlF, QN, Qp, QlN]
  exact .inr ⟨rfl, rfl⟩
theorem QiX (hi : i < h.length) (hj : j < h.length) (hij : i ≠ j) (hpi : i ≠ p) (hpj : j ≠ p) (g : G) (gp : h[p]? = some (.cells 53 3 [g.goal])) (hx : lexL g.args) (hl : g.args.length ≤ 1000000) (ho : g.op = 11)
    (hG : XO (HB h i j true (.empty))) (u : Bool) (tx : ByteArray) (hs : tx.size + (funT intB (txts g.args)).size ≤ 140737488355328) :
    Wri 85 [.ptr i 0 0, .ptr p 0 0] h i j u tx (funT intB (txts g.args)) := by
  have k1 : ∀ u tx, (HB h i j u tx)[p]? = some (.cells 53 3 [.agg [.i 11, .v (.string g.name), .sl 4 (avs g.args) none]]) := fun u tx => by
    rw [HB, YI _ _ hpi hpj, gp, ← ho]; rfl
  have z0 : ((11 : Int) == 0) = false := by decide
  have z1 : ((11 : Int) == 1) = false := by decide
  have z2 : ((11 : Int) == 2) = false := by decide
  have c1 := Z3 hi hj hij g.args hl intB (fun a ha h hi hj hG tx hs => Qbn g.args hx i j hij a ha h hi hj hG true tx hs) hG u tx hs
  rw [Wri] at c1
  refine Qh Tryz.func85 rfl Tryz.call85 Tryz.ntmps85 (congrArg Array.toList Tryz.results85) (by simp) ?_
  repeat (first | ((first | (with_reducible (first | refine Qa fun K E hK hE => ?_ | refine Qo fun K E hK hE => ?_ | refine FunW.ret (FunW.call c1) ?_))); simp -implicitDefEqProofs only [Qd, Qb, Qg, OpW, QR, aop, undef, AS.ev, Qc, Qq, QF, Qk, QD, QlK, Ql3, Qy, ↓reduceIte, Nat.reduceLT, Nat.reduceEqDiff, QlP, Ql2, Ql, QK, QL, aBin, QlD, QlE, QlF, QlS, QlW, QS, QlL, ti3, ti44, XG, Ya, k1, z0, z1, z2]) | (with_reducible (first | refine Qm ?_ | refine Qw ?_)) | ((with_reducible refine hK _ ?_); clear hK) | (refine Qj rfl ?_; simp only [↓reduceIte, QlH]))
  simp -implicitDefEqProofs only [QlF, QlJ, List.mapM_nil, Option.pure_def, QlF, QN, Qp, QlN]
  exact .inr ⟨rfl, rfl⟩
theorem Qf0 (hi : i < h.length) (hj : j < h.length) (hij : i ≠ j) (hpi : i ≠ p) (hpj : j ≠ p) (g : G) (gp : h[p]? = some (.cells 53 3 [g.goal])) (hx : lexL g.args) (hl : g.args.length ≤ 1000000) (ho : g.op = 12)
    (hG : XO (HB h i j true (.empty))) (u : Bool) (tx : ByteArray) (hs : tx.size + (funT grdB (txts g.args)).size ≤ 140737488355328) :
    Wri 85 [.ptr i 0 0, .ptr p 0 0] h i j u tx (funT grdB (txts g.args)) := by
  have k1 : ∀ u tx, (HB h i j u tx)[p]? = some (.cells 53 3 [.agg [.i 12, .v (.string g.name), .sl 4 (avs g.args) none]]) := fun u tx => by
    rw [HB, YI _ _ hpi hpj, gp, ← ho]; rfl
  have z0 : ((12 : Int) == 0) = false := by decide
  have z1 : ((12 : Int) == 1) = false := by decide
  have z2 : ((12 : Int) == 2) = false := by decide
  have z11 : ((12 : Int) == 11) = false := by decide
  have c1 := Z3 hi hj hij g.args hl grdB (fun a ha h hi hj hG tx hs => Qbn g.args hx i j hij a ha h hi hj hG true tx hs) hG u tx hs
  rw [Wri] at c1
  refine Qh Tryz.func85 rfl Tryz.call85 Tryz.ntmps85 (congrArg Array.toList Tryz.results85) (by simp) ?_
  repeat (first | ((first | (with_reducible (first | refine Qa fun K E hK hE => ?_ | refine Qo fun K E hK hE => ?_ | refine FunW.ret (FunW.call c1) ?_))); simp -implicitDefEqProofs only [Qd, Qb, Qg, OpW, QR, aop, undef, AS.ev, Qc, Qq, QF, Qk, QD, QlK, Ql3, Qy, ↓reduceIte, Nat.reduceLT, Nat.reduceEqDiff, QlP, Ql2, Ql, QK, QL, aBin, QlD, QlE, QlF, QlS, QlW, QS, QlL, ti3, ti44, XG, Ya, k1, z0, z1, z2, z11]) | (with_reducible (first | refine Qm ?_ | refine Qw ?_)) | ((with_reducible refine hK _ ?_); clear hK) | (refine Qj rfl ?_; simp only [↓reduceIte, QlH]))
  simp -implicitDefEqProofs only [QlF, QlJ, List.mapM_nil, Option.pure_def, QlF, QN, Qp, QlN]
  exact .inr ⟨rfl, rfl⟩
theorem Qim (hi : i < h.length) (hj : j < h.length) (hij : i ≠ j) (hpi : i ≠ p) (hpj : j ≠ p) (op : Int) (n : ByteArray) (a c : T) (gp : h[p]? = some (.cells 53 3 [.agg [.i op, .v (.string n), .sl 4 (avs [a, c]) none]])) (hx : lexL [a, c]) (h3 : 3 ≤ op) (h10 : op ≤ 10)
    (hG : XO (HB h i j true (.empty))) (u : Bool) (tx : ByteArray) (hs : tx.size + (pairT op (txts [a, c])).size ≤ 140737488355328) :
    Wri 85 [.ptr i 0 0, .ptr p 0 0] h i j u tx (pairT op (txts [a, c])) := by
  have k1 : ∀ u tx, (HB h i j u tx)[p]? = some (.cells 53 3 [.agg [.i op, .v (.string n), .sl 4 (avs [a, c]) none]]) := fun u tx => by
    rw [HB, YI _ _ hpi hpj, gp]
  have f6 := fun u tx => Qhb (h := h) hi hij u tx
  have et : pairT op (txts [a, c]) = (a.txt ++ (({ data := #[32] } : ByteArray) ++ Qc2 op ++ { data := #[32] })) ++ c.txt := rfl
  rw [et] at hs ⊢
  simp only [Qt] at hs
  have hsp : ({ data := #[32] } : ByteArray).size = 1 := rfl
  have cb := Qgm op h3 h10
  have hbz := QeD op h3 h10
  have c1 := T.Qlf a hx.1 i j hij h hi hj hG u tx (by omega)
  have c2 := wstr hi hj hij true (tx ++ a.txt) (({ data := #[32] } : ByteArray) ++ Qc2 op ++ { data := #[32] }) (by simp only [Qt]; omega)
  have c3 := T.Qlf c hx.2.1 i j hij h hi hj hG true ((tx ++ a.txt) ++ (({ data := #[32] } : ByteArray) ++ Qc2 op ++ { data := #[32] })) (by simp only [Qt]; omega)
  rw [Wri] at c1 c3
  have z0 : (op == 0) = false := by simp; omega
  have z1 : (op == 1) = false := by simp; omega
  have z2 : (op == 2) = false := by simp; omega
  have z11 : (op == 11) = false := by simp; omega
  have z12 : (op == 12) = false := by simp; omega
  have hsa1 := fun xo yo => Xl Tryz.prog 9 xo yo ({ data := #[32] } : ByteArray) (Qc2 op) (by omega)
  have hsa2 := fun xo yo => Xl Tryz.prog 9 xo yo (({ data := #[32] } : ByteArray) ++ Qc2 op) { data := #[32] } (by rw [Qt]; omega)
  have ga : (avs [a, c])[0]? = some a.av := rfl
  have gc : (avs [a, c])[1]? = some c.av := rfl
  have hll : (avs [a, c]).length = 2 := rfl
  have y0 : ((0 : Int) ≤ 1) = True := by simp
  have y1 : ((0 : Int) < ((2 : Nat) : Int)) = True := by simp
  have y2 : ((1 : Int) < ((2 : Nat) : Int)) = True := by simp
  refine Qh Tryz.func85 rfl Tryz.call85 Tryz.ntmps85 (congrArg Array.toList Tryz.results85) (by simp) ?_
  repeat (first | ((first | (with_reducible (first | refine Qa fun K E hK hE => ?_ | refine Qo fun K E hK hE => ?_ | refine QQ cb ?_ | refine FunW.ret (FunW.call c1) ?_ | refine FunW.ret (FunW.call c3) ?_ | refine XL (FunW.call c2) ZN ?_)) | (refine QX (id := 2) [(0, 0), (1, 0), (2, 0), (3, 0), (4, 0), (5, 1), (6, 0), (7, 0), (8, 2)] mixed (by kernel_rfl) fun K hK => ?_)); simp -implicitDefEqProofs only [Xk, Xd, Xw, Qd, Qb, Qg, OpW, QR, aop, undef, AS.ev, Qc, Qq, QF, Qk, QD, QlK, Ql3, Qy, ↓reduceIte, QlQ, QlR, Nat.reduceAdd, Nat.reduceLT, Nat.reduceLeDiff, Nat.reduceEqDiff, QlP, Ql2, Qmb, Ql, QK, QL, QJ, aBin, QlD, QlE, QlF, QlG, QlS, QlW, QS, Int.toNat_zero, Int.toNat_one, T.Qk4, T.Qk6, ti3, ti44, ei44, XG, Ya, ti69, YO, Qmq, Q5, k1, f6, z0, z1, z2, z11, z12, hsa1, hsa2, ga, gc, hll, y0, y1, y2, T.Qk6, T.Qk4]) | (with_reducible (first | refine Qm ?_ | refine Qw ?_)) | ((with_reducible refine hK _ ?_); clear hK) | (refine Qj rfl ?_; simp only [↓reduceIte, QlH]))
  simp -implicitDefEqProofs only [QlF, QlJ, List.mapM_nil, Option.pure_def, QlF, QN, Qp, QlN]
  exact .inr ⟨rfl, by simp only [ByteArray.append_assoc]⟩
end
end Go.Proofs.YtenheconhibonaaGreatDoor.Ab
set_option maxRecDepth 4000
namespace Go.Proofs.YtenheconhibonaaGreatDoor.Ab
open Go.Proofs
theorem ZJ (g : G) : Pure Tryz.prog 61 [g.goal] (.b (Q4 g)) := by
  intro h
  refine Qh Tryz.func61 rfl Tryz.call61 Tryz.ntmps61 (congrArg Array.toList Tryz.results61) (by simp) ?_
  iterate 4 (try (first | (((with_reducible refine Qa fun K E hK hE => ?_)); simp -implicitDefEqProofs only [Qd, Qb, Qg, OpW, aop, undef, AS.ev, Qc, Qq, Qr, QD, QlK, AV.Qk5, QlX, QlY, QC, QA, QI, QlZ, ↓reduceIte, QlQ, QlR, Nat.reduceAdd, Nat.reduceLT, QlP, Q3]) | ((with_reducible refine hK _ ?_); clear hK)))
  refine Xv (fun s => g.op ≠ 0 ∧ s.tm 1 = .ptr h.length 0 0 ∧ s.tm 3 = .i (ZY g.op) ∧ s.h = h ++ [.cells 53 3 [g.goal]]) ?_ ?_
  · rintro ⟨tm, hp⟩ ⟨k0, t1, t3, hh⟩
    dsimp only at t1 t3 hh
    subst hh
    cases p0 : decide (g.op > 0)
    · skip
      have R : Q4 g = false := by
        rw [Q4, if_neg k0, decide_eq_false (by simp at p0; omega)]; rfl
      iterate 2 (try (first | (((with_reducible refine Qa fun K E hK hE => ?_)); simp -implicitDefEqProofs only [Qd, Qb, Qg, OpW, aop, AS.ev, Qc, Qq, Qk, AV.Qk5, Qy, Q6, QM, QlX, QlY, QC, QlZ, ↓reduceIte, QlQ, QlR, Nat.reduceLT, Nat.reduceLeDiff, QlP, Qmb, Zp, ZB, hlen, happ, QlD, QlF, QlS, QlW, Ql5, Ql4, Ql6, QlV, QlM, QlU, QfJ, QfS]) | ((with_reducible refine hK _ ?_); clear hK)))
      (with_reducible refine Qa fun K E hK hE => ?_)
      (try simp only [Qme]); refine Qz 8 (fun K1 hK1 => ?_); simp -implicitDefEqProofs only [Qd, Qb, Qg, OpW, aop, undef, AS.ev, Qc, Qq, Qr, Qk, ↓reduceIte, Nat.reduceLT, Nat.reduceEqDiff, Ql2, Ql, QK, QL, aBin, QO, QlD, QlE, QlF, QlI, QlG, QlO, QlV, Q1, QlH, beq_true, ti3, XG, Q3, t1, p0]; refine hK1 _ ?_; clear hK1
      (try simp only [QlM, QlU]); refine Qz 6 (fun K1 hK1 => ?_); simp -implicitDefEqProofs only [Qd, Qb, Qg, OpW, aop, undef, AS.ev, Qc, Qr, Qk, ↓reduceIte, Nat.reduceLT, Nat.reduceEqDiff, QlD, QlE, QlI, QlG, QlO, QlV, QlH, beq_true]; refine hK1 _ ?_; clear hK1
      (try simp only [QlM, QlU]); refine Qz 6 (fun K1 hK1 => ?_); simp -implicitDefEqProofs only [Qd, Qb, Qg, OpW, aop, undef, AS.ev, Qc, Qr, Qk, ↓reduceIte, Nat.reduceLT, Nat.reduceEqDiff, QlD, QlE, QlI, QlG, QlO, QlV, QlH, beq_true]; refine hK1 _ ?_; clear hK1
      (try simp only [QlM, QlU])
      simp -implicitDefEqProofs only [Qd, Qb, Qg, OpW, aop, undef, AS.ev, Qc, Qr, Qk, ↓reduceIte, Nat.reduceLT, Nat.reduceEqDiff, QlD, QlE, QlI, QlG, QlH, beq_true]
      repeat (first | (with_reducible refine Qn ?_) | ((with_reducible refine hK _ ?_); clear hK))
      simp only [QN, Qp, Qu, upd, ↓reduceIte, QlJ, QlN]; first | refine Qe (htake _ _) (.keep (.v _)) ⟨by rw [R], rfl⟩ | refine Qe List.take_length (.keep (.v _)) ⟨by rw [R], rfl⟩
    cases p1 : decide (g.op ≤ 12)
    · skip
      have R : Q4 g = false := by
        rw [Q4, if_neg k0, decide_eq_false (by simp at p1; omega)]; rfl
      iterate 2 (try (first | (((with_reducible refine Qa fun K E hK hE => ?_)); simp -implicitDefEqProofs only [Qd, Qb, Qg, OpW, aop, AS.ev, Qc, Qq, Qk, AV.Qk5, Qy, Q6, QM, QlX, QlY, QC, QlZ, ↓reduceIte, QlQ, QlR, Nat.reduceLT, Nat.reduceLeDiff, QlP, Qmb, Zp, ZB, hlen, happ, QlD, QlF, QlS, QlW, Ql5, Ql4, Ql6, QlV, QlM, QlU, QfJ, QfS]) | ((with_reducible refine hK _ ?_); clear hK)))
      (with_reducible refine Qa fun K E hK hE => ?_)
      (try simp only [Qme]); refine Qz 8 (fun K1 hK1 => ?_); simp -implicitDefEqProofs only [Qd, Qb, Qg, OpW, aop, AS.ev, Qc, Qq, Qk, ↓reduceIte, Nat.reduceLT, Nat.reduceEqDiff, Ql2, Ql, QK, QL, aBin, QO, QlD, QlE, QlF, QlI, QlG, QlO, QlV, X5, Q1, QlL, ti3, XG, Q3, t1, p0, p1]; refine hK1 _ ?_; clear hK1
      (try simp only [QlM, QlU]); refine Qz 6 (fun K1 hK1 => ?_); simp -implicitDefEqProofs only [Qd, Qb, Qg, OpW, aop, undef, AS.ev, Qc, Qr, Qk, ↓reduceIte, Nat.reduceLT, Nat.reduceEqDiff, QlD, QlE, QlI, QlG, QlO, QlV, QlH, beq_true]; refine hK1 _ ?_; clear hK1
      (try simp only [QlM, QlU]); refine Qz 6 (fun K1 hK1 => ?_); simp -implicitDefEqProofs only [Qd, Qb, Qg, OpW, aop, undef, AS.ev, Qc, Qr, Qk, ↓reduceIte, Nat.reduceLT, Nat.reduceEqDiff, QlD, QlE, QlI, QlG, QlO, QlV, QlH, beq_true]; refine hK1 _ ?_; clear hK1
      (try simp only [QlM, QlU])
      simp -implicitDefEqProofs only [Qd, Qb, Qg, OpW, aop, undef, AS.ev, Qc, Qr, Qk, ↓reduceIte, Nat.reduceLT, Nat.reduceEqDiff, QlD, QlE, QlI, QlG, QlH, beq_true]
      repeat (first | (with_reducible refine Qn ?_) | ((with_reducible refine hK _ ?_); clear hK))
      simp only [QN, Qp, Qu, upd, ↓reduceIte, QlJ, QlN]; first | refine Qe (htake _ _) (.keep (.v _)) ⟨by rw [R], rfl⟩ | refine Qe List.take_length (.keep (.v _)) ⟨by rw [R], rfl⟩
    have p2 : decide (0 < g.op ∧ g.op ≤ 12) = true := decide_eq_true ⟨of_decide_eq_true p0, of_decide_eq_true p1⟩
    cases c3 : Yr g.name
    · have c3' : (g.name.toList == ({ data := #[] } : ByteArray).toList) = false := c3
      have R : Q4 g = false := by
        rw [Q4, if_neg k0, p2, c3]; rfl
      iterate 2 (try (first | (((with_reducible refine Qa fun K E hK hE => ?_)); simp -implicitDefEqProofs only [Qd, Qb, Qg, OpW, aop, AS.ev, Qc, Qq, Qk, AV.Qk5, Qy, Q6, QM, QlX, QlY, QC, QlZ, ↓reduceIte, QlQ, QlR, Nat.reduceLT, Nat.reduceLeDiff, QlP, Qmb, Zp, ZB, hlen, happ, QlD, QlF, QlS, QlW, Ql5, Ql4, Ql6, QlV, QlM, QlU, QfJ, QfS]) | ((with_reducible refine hK _ ?_); clear hK)))
      (with_reducible refine Qa fun K E hK hE => ?_)
      (try simp only [Qme]); refine Qz 8 (fun K1 hK1 => ?_); simp -implicitDefEqProofs only [Qd, Qb, Qg, OpW, aop, AS.ev, Qc, Qq, Qk, ↓reduceIte, Nat.reduceLT, Nat.reduceEqDiff, Ql2, Ql, QK, QL, aBin, QO, QlD, QlE, QlF, QlI, QlG, QlO, QlV, X5, Q1, QlL, ti3, XG, Q3, t1, p0, p1]; refine hK1 _ ?_; clear hK1
      (try simp only [QlM, QlU]); refine Qz 6 (fun K1 hK1 => ?_); simp -implicitDefEqProofs only [Qd, Qb, Qg, OpW, aop, AS.ev, Qc, QF, Qk, ↓reduceIte, Nat.reduceLT, Nat.reduceEqDiff, QlP, Ql, QK, QL, aBin, QO, QlD, QlE, QlF, QlI, QlG, QlO, QlV, QZ, QlL, ti9, Yy, Q3, t1, c3']; refine hK1 _ ?_; clear hK1
      (try simp only [QlM, QlU]); refine Qz 6 (fun K1 hK1 => ?_); simp -implicitDefEqProofs only [Qd, Qb, Qg, OpW, aop, undef, AS.ev, Qc, Qr, Qk, ↓reduceIte, Nat.reduceLT, Nat.reduceEqDiff, QlD, QlE, QlI, QlG, QlO, QlV, QlH, beq_true]; refine hK1 _ ?_; clear hK1
      (try simp only [QlM, QlU])
      simp -implicitDefEqProofs only [Qd, Qb, Qg, OpW, aop, undef, AS.ev, Qc, Qr, Qk, ↓reduceIte, Nat.reduceLT, Nat.reduceEqDiff, QlD, QlE, QlI, QlG, QlH, beq_true]
      repeat (first | (with_reducible refine Qn ?_) | ((with_reducible refine hK _ ?_); clear hK))
      simp only [QN, Qp, Qu, upd, ↓reduceIte, QlJ, QlN]; first | refine Qe (htake _ _) (.keep (.v _)) ⟨by rw [R], rfl⟩ | refine Qe List.take_length (.keep (.v _)) ⟨by rw [R], rfl⟩
    have c3' : (g.name.toList == ({ data := #[] } : ByteArray).toList) = true := c3
    cases c4 : ((g.args.length : Int) == ZY g.op)
    · have c5 : decide ((g.args.length : Int) = ZY g.op) = false := decide_eq_false (by simpa using c4)
      have R : Q4 g = false := by
        rw [Q4, if_neg k0, p2, c3, c5]; rfl
      iterate 2 (try (first | (((with_reducible refine Qa fun K E hK hE => ?_)); simp -implicitDefEqProofs only [Qd, Qb, Qg, OpW, aop, AS.ev, Qc, Qq, Qk, AV.Qk5, Qy, Q6, QM, QlX, QlY, QC, QlZ, ↓reduceIte, QlQ, QlR, Nat.reduceLT, Nat.reduceLeDiff, QlP, Qmb, Zp, ZB, hlen, happ, QlD, QlF, QlS, QlW, Ql5, Ql4, Ql6, QlV, QlM, QlU, QfJ, QfS]) | ((with_reducible refine hK _ ?_); clear hK)))
      (with_reducible refine Qa fun K E hK hE => ?_)
      (try simp only [Qme]); refine Qz 8 (fun K1 hK1 => ?_); simp -implicitDefEqProofs only [Qd, Qb, Qg, OpW, aop, AS.ev, Qc, Qq, Qk, ↓reduceIte, Nat.reduceLT, Nat.reduceEqDiff, Ql2, Ql, QK, QL, aBin, QO, QlD, QlE, QlF, QlI, QlG, QlO, QlV, X5, Q1, QlL, ti3, XG, Q3, t1, p0, p1]; refine hK1 _ ?_; clear hK1
      (try simp only [QlM, QlU]); refine Qz 6 (fun K1 hK1 => ?_); simp -implicitDefEqProofs only [Qd, Qb, Qg, OpW, aop, AS.ev, Qc, QF, Qk, ↓reduceIte, Nat.reduceLT, Nat.reduceEqDiff, QlP, Ql, QK, QL, aBin, QO, QlD, QlE, QlF, QlI, QlG, QlO, QlV, QZ, QlL, ti9, Yy, Q3, t1, c3']; refine hK1 _ ?_; clear hK1
      (try simp only [QlM, QlU]); refine Qz 6 (fun K1 hK1 => ?_); simp -implicitDefEqProofs only [Qd, Qb, Qg, OpW, aop, AS.ev, Qc, Qk, ↓reduceIte, Nat.reduceLT, Nat.reduceEqDiff, QlP, Ql, QK, QL, aBin, aLen, QO, QlD, QlE, QlF, QlI, QlG, QlO, QlV, QS, goInt, QlL, QE, ti44, un44, Ya, Q3, QE, t1, t3, c4]; refine hK1 _ ?_; clear hK1
      (try simp only [QlM, QlU])
      simp -implicitDefEqProofs only [Qd, Qb, Qg, OpW, aop, undef, AS.ev, Qc, Qr, Qk, ↓reduceIte, Nat.reduceLT, Nat.reduceEqDiff, QlD, QlE, QlI, QlG, QlH, beq_true]
      repeat (first | (with_reducible refine Qn ?_) | ((with_reducible refine hK _ ?_); clear hK))
      simp only [QN, Qp, Qu, upd, ↓reduceIte, QlJ, QlN]; first | refine Qe (htake _ _) (.keep (.v _)) ⟨by rw [R], rfl⟩ | refine Qe List.take_length (.keep (.v _)) ⟨by rw [R], rfl⟩
    have c5 : decide ((g.args.length : Int) = ZY g.op) = true := decide_eq_true (by simpa using c4)
    have c6 : (g.args.length : Int) ≤ 2 := by
      have c7 : (g.args.length : Int) = ZY g.op := by simpa using c4
      rw [c7, ZY]; split <;> (try split) <;> decide
    have ca := Qkn g.args (by omega) (h ++ [.cells 53 3 [g.goal], .cells 149 1 [.agg [.i 200]]]) (h.length + 1) (by rw [hget]; rfl)
    rw [hset] at ca
    have R : Q4 g = (runL g.args 200 20).1 := by
      rw [Q4, if_neg k0, p2, c3, c5]; rfl
    iterate 2 (try (first | (((with_reducible refine Qa fun K E hK hE => ?_)); simp -implicitDefEqProofs only [Qd, Qb, Qg, OpW, aop, AS.ev, Qc, Qq, Qk, AV.Qk5, Qy, Q6, QM, QlX, QlY, QC, QlZ, ↓reduceIte, QlQ, QlR, Nat.reduceLT, Nat.reduceLeDiff, QlP, Qmb, Zp, ZB, hlen, happ, QlD, QlF, QlS, QlW, Ql5, Ql4, Ql6, QlV, QlM, QlU, QfJ, QfS]) | ((with_reducible refine hK _ ?_); clear hK)))
    (with_reducible refine Qa fun K E hK hE => ?_)
    (try simp only [Qme]); refine Qz 8 (fun K1 hK1 => ?_); simp -implicitDefEqProofs only [Qd, Qb, Qg, OpW, aop, AS.ev, Qc, Qq, Qk, ↓reduceIte, Nat.reduceLT, Nat.reduceEqDiff, Ql2, Ql, QK, QL, aBin, QO, QlD, QlE, QlF, QlI, QlG, QlO, QlV, X5, Q1, QlL, ti3, XG, Q3, t1, p0, p1]; refine hK1 _ ?_; clear hK1
    (try simp only [QlM, QlU]); refine Qz 6 (fun K1 hK1 => ?_); simp -implicitDefEqProofs only [Qd, Qb, Qg, OpW, aop, AS.ev, Qc, QF, Qk, ↓reduceIte, Nat.reduceLT, Nat.reduceEqDiff, QlP, Ql, QK, QL, aBin, QO, QlD, QlE, QlF, QlI, QlG, QlO, QlV, QZ, QlL, ti9, Yy, Q3, t1, c3']; refine hK1 _ ?_; clear hK1
    (try simp only [QlM, QlU]); refine Qz 6 (fun K1 hK1 => ?_); simp -implicitDefEqProofs only [Qd, Qb, Qg, OpW, aop, AS.ev, Qc, Qk, ↓reduceIte, Nat.reduceLT, Nat.reduceEqDiff, QlP, Ql, QK, QL, aBin, aLen, QO, QlD, QlE, QlF, QlI, QlG, QlO, QlV, QS, goInt, QlL, QE, ti44, un44, Ya, Q3, QE, t1, t3, c4]; refine hK1 _ ?_; clear hK1
    (try simp only [QlM, QlU])
    simp -implicitDefEqProofs only [Qb, Qg, OpW, aop, AS.ev, Qc, Qq, Qk, ↓reduceIte, Nat.reduceLT, Nat.reduceEqDiff, QlP, Ql, QK, QL, QO, QlD, QlE, QlF, QlI, QlG, QlS, QlW, QlL, ti44, Ya, Q3, t1]
    repeat (first | (((with_reducible refine FunW.ret (FunW.call ca) ?_)); simp -implicitDefEqProofs only [Qd, Qb, Qg, OpW, QR, aop, AS.ev, Qc, Qk, ↓reduceIte, Nat.reduceLT, Nat.reduceEqDiff, Ql7, Ql8]) | (with_reducible refine Qn ?_) | ((with_reducible refine hK _ ?_); clear hK))
    simp only [QN, Qp, Qu, upd, ↓reduceIte, QlJ, QlN]; first | refine Qe (htake _ _) (.keep (.v _)) ⟨by rw [R], rfl⟩ | refine Qe List.take_length (.keep (.v _)) ⟨by rw [R], rfl⟩
  · by_cases k0 : g.op = 0
    · have c := ZL ⟨0, g.name, g.args⟩
      rw [show G.atom ⟨0, g.name, g.args⟩ = AV.agg [.v (.string g.name), .sl 4 (avs g.args) none] from rfl] at c
      have R : Q4 g = Q8 ⟨0, g.name, g.args⟩ := by
        rw [Q4, if_pos k0]
      have z0 : (g.op == 0) = true := by simp [k0]
      repeat (first | ((first | (with_reducible (first | refine Qa fun K E hK hE => ?_ | refine Qs c ?_))); simp -implicitDefEqProofs only [Qd, Qb, Qg, OpW, QR, aop, undef, AS.ev, Qc, Qq, Qk, QD, AV.Qk5, Qy, Q6, Xs, QM, QlX, QlY, QA, QP, QI, QlZ, ↓reduceIte, QlQ, QlR, Nat.reduceAdd, Nat.reduceLT, Nat.reduceLeDiff, Nat.reduceEqDiff, QlP, Ql2, Qmb, Ql, QK, QL, aBin, Zp, ZB, QO, QlD, QlE, QlF, QlS, QlW, Ql5, Ql4, Ql6, QlO, QlV, QlM, QlU, QS, ti3, ti9, ti44, XG, Yy, Ya, zi66, sp66, Q3, z0]) | (with_reducible (first | refine Qm ?_ | refine Qn ?_ | refine QB ?_ | refine QH ?_)) | ((with_reducible refine hK _ ?_); clear hK) | (refine Qj rfl ?_; simp only [↓reduceIte]))
      simp only [QN, Qp, Qu, upd, ↓reduceIte, QlJ, QlN]; first | refine Qe (htake _ _) (.keep (.v _)) ⟨by rw [R], rfl⟩ | refine Qe List.take_length (.keep (.v _)) ⟨by rw [R], rfl⟩
    have z0 : (g.op == 0) = false := by simp [k0]
    by_cases k1 : g.op = 1
    · have z1 : (g.op == 1) = true := by simp [k1]
      have gn : ZY g.op = 0 := by simp [ZY, k1]
      repeat (first | ((first | (with_reducible (first | refine Qa fun K E hK hE => ?_ | refine Qo fun K E hK hE => ?_))); simp -implicitDefEqProofs only [Qd, Qb, Qg, OpW, aop, AS.ev, Qc, Qq, Qk, ↓reduceIte, Nat.reduceLT, Nat.reduceEqDiff, Ql2, Ql, QK, QL, aBin, QO, QlD, QlF, QS, ti3, XG, Q3, z0, z1]) | (with_reducible (first | refine Qi fun K hK => ?_ | refine Qm ?_ | refine Qv ?_ | refine Qf ?_ | refine Qw ?_)) | ((with_reducible refine hK _ ?_); clear hK) | (refine Qj rfl ?_; simp only [↓reduceIte, QlH]))
      exact ⟨k0, rfl, by rw [gn]; rfl, rfl⟩
    have z1 : (g.op == 1) = false := by simp [k1]
    by_cases k2 : g.op = 2
    · have z2 : (g.op == 2) = true := by simp [k2]
      have gn : ZY g.op = 0 := by simp [ZY, k2]
      repeat (first | ((first | (with_reducible (first | refine Qa fun K E hK hE => ?_ | refine Qo fun K E hK hE => ?_))); simp -implicitDefEqProofs only [Qd, Qb, Qg, OpW, aop, AS.ev, Qc, Qq, Qk, ↓reduceIte, Nat.reduceLT, Nat.reduceEqDiff, Ql2, Ql, QK, QL, aBin, QO, QlD, QlF, QS, ti3, XG, Q3, z0, z1, z2]) | (with_reducible (first | refine Qi fun K hK => ?_ | refine Qm ?_ | refine Qf ?_ | refine Qw ?_)) | ((with_reducible refine hK _ ?_); clear hK) | (refine Qj rfl ?_; simp only [↓reduceIte, QlH]))
      exact ⟨k0, rfl, by rw [gn]; rfl, rfl⟩
    have z2 : (g.op == 2) = false := by simp [k2]
    by_cases k11 : g.op = 11
    · have z11 : (g.op == 11) = true := by simp [k11]
      have gn : ZY g.op = 1 := by simp [ZY, k11]
      repeat (first | ((first | (with_reducible (first | refine Qa fun K E hK hE => ?_ | refine Qo fun K E hK hE => ?_))); simp -implicitDefEqProofs only [Qd, Qb, Qg, OpW, aop, AS.ev, Qc, Qq, Qk, ↓reduceIte, Nat.reduceLT, Nat.reduceEqDiff, Ql2, Ql, QK, QL, aBin, QO, QlD, QlF, QS, ti3, XG, Q3, z0, z1, z2, z11]) | (with_reducible (first | refine Qi fun K hK => ?_ | refine Qm ?_ | refine Qv ?_ | refine Qf ?_ | refine Qw ?_)) | ((with_reducible refine hK _ ?_); clear hK) | (refine Qj rfl ?_; simp only [↓reduceIte, QlH]))
      exact ⟨k0, rfl, by rw [gn]; rfl, rfl⟩
    have z11 : (g.op == 11) = false := by simp [k11]
    by_cases k12 : g.op = 12
    · have z12 : (g.op == 12) = true := by simp [k12]
      have gn : ZY g.op = 1 := by simp [ZY, k12]
      repeat (first | ((first | (with_reducible (first | refine Qa fun K E hK hE => ?_ | refine Qo fun K E hK hE => ?_))); simp -implicitDefEqProofs only [Qd, Qb, Qg, OpW, aop, AS.ev, Qc, Qq, Qk, ↓reduceIte, Nat.reduceLT, Nat.reduceEqDiff, Ql2, Ql, QK, QL, aBin, QO, QlD, QlF, QS, ti3, XG, Q3, z0, z1, z2, z11, z12]) | (with_reducible (first | refine Qi fun K hK => ?_ | refine Qm ?_ | refine Qf ?_ | refine Qw ?_)) | ((with_reducible refine hK _ ?_); clear hK) | (refine Qj rfl ?_; simp only [↓reduceIte, QlH]))
      exact ⟨k0, rfl, by rw [gn]; rfl, rfl⟩
    have z12 : (g.op == 12) = false := by simp [k12]
    have gn : ZY g.op = 2 := by simp [ZY, k1, k2, k11, k12]
    repeat (first | ((first | (with_reducible (first | refine Qa fun K E hK hE => ?_ | refine Qo fun K E hK hE => ?_))); simp -implicitDefEqProofs only [Qd, Qb, Qg, OpW, aop, AS.ev, Qc, Qq, Qk, ↓reduceIte, Nat.reduceLT, Nat.reduceEqDiff, Ql2, Ql, QK, QL, aBin, QO, QlD, QlF, QS, ti3, XG, Q3, z0, z1, z2, z11, z12]) | (with_reducible (first | refine Qi fun K hK => ?_ | refine Qm ?_ | refine Qv ?_ | refine Qf ?_ | refine Qw ?_)) | ((with_reducible refine hK _ ?_); clear hK) | (refine Qj rfl ?_; simp only [↓reduceIte, QlH]))
    exact ⟨k0, rfl, by rw [gn]; rfl, rfl⟩
end Go.Proofs.YtenheconhibonaaGreatDoor.Ab
set_option maxRecDepth 4000
namespace Go.Proofs.YtenheconhibonaaGreatDoor.Ab
open Go.Proofs
def txtA (g : G) : ByteArray := if Q8 g = true then funT g.name (txts g.args) else { data := #[] }
def txtG (g : G) : ByteArray := if Q4 g = true then ZO g else { data := #[] }
theorem Qdl {s : ByteArray} {l : List ByteArray} (h0 : 1 ≤ s.size) : 1 ≤ (funT s l).size := by rw [funT, Qt]; omega
theorem QgL (s : ByteArray) (l : List ByteArray) : (funT s l).size ≤ s.size + 2 + (l.map fun x => x.size + 2).sum := by
  rw [funT, Qt]
  have e1 := Qcr (decide (0 < l.length)) (XV true l)
  have e2 := Qc8 l true
  omega
theorem QbR {g : G} (h : Q8 g = true) : lexL g.args ∧ g.args.length ≤ 6 ∧ 1 ≤ (funT g.name (txts g.args)).size ∧ (funT g.name (txts g.args)).size ≤ 15000 := by
  simp only [Q8, Bool.and_eq_true, decide_eq_true_eq] at h
  obtain ⟨h1, h2, h3⟩ := h
  have hn := Y1 h1
  have hl := Qcg g.args 200 20 h3
  have hr := Qdd g.args 200 20 (by omega) h3
  refine ⟨hl.1, h2, Qdl hn.1, ?_⟩
  have := QgL g.name (txts g.args)
  have := hl.2.1
  omega
theorem QhA {h : AH} (hG : XO h) (b : AB) : XO (HB (h ++ [b] ++ [AB.dead, AB.dead]) (h ++ [b]).length ((h ++ [b]).length + 1) true (.empty)) := QkS (hG.app [b]) _ _
theorem QeH (g : G) (hl : g.args.length ≤ 1000000) (h : AH) (hG : XO h) : Yd Tryz.prog 37 [g.atom] h fun o h' => o = .ret (.v (.string (txtA g))) ∧ h' = h := by
  have cr := ZL g
  cases hr : Q8 g with
  | false =>
    rw [hr] at cr
    have c1 := QiD (.fn (.func 83) [] [.ptr h.length 0 0])
    refine Qh Tryz.func37 rfl Tryz.call37 Tryz.ntmps37 (congrArg Array.toList Tryz.results37) (by simp) ?_
    repeat (first | ((first | (with_reducible (first | refine Qa fun K E hK hE => ?_ | refine Qs cr ?_ | refine Qs c1 ?_))); simp -implicitDefEqProofs only [Qd, Qb, Qg, OpW, QR, aop, undef, AS.ev, Qc, QF, Qk, QD, QlK, AV.Qk5, QlX, QlY, QA, QI, QlZ, ↓reduceIte, QlQ, QlR, Nat.reduceAdd, Nat.reduceLT, Nat.reduceEqDiff, QlP, Qmb, QK, QL, QO, QlD, QlF, QlS, QlW, ti66, XB, Y7]) | (with_reducible refine Qn ?_) | ((with_reducible refine hK _ ?_); clear hK))
    simp only [QN, Qp, Qu, upd, ↓reduceIte, QlJ, QlN]; first | refine Qe (htake _ _) (.keep (.v _)) ⟨by rw [txtA, if_neg (by rw [hr]; decide)], rfl⟩ | refine Qe List.take_length (.keep (.v _)) ⟨by rw [txtA, if_neg (by rw [hr]; decide)], rfl⟩
  | true =>
    rw [hr] at cr
    obtain ⟨hx, h6, hs0, hs1⟩ := QbR hr
    have hk := Qjz (h := h ++ [AB.cells 66 2 [g.atom]] ++ [AB.dead, AB.dead]) (i := (h ++ [AB.cells 66 2 [g.atom]]).length) (j := (h ++ [AB.cells 66 2 [g.atom]]).length + 1) (p := h.length)
      (by simp) (by simp) (by omega) (by simp) (by simp; omega) g (by simp) hx hl (QhA hG _) false .empty (by rw [show (ByteArray.empty).size = 0 from rfl]; omega)
    rw [Wri, ByteArray.empty_append] at hk
    have c1 := QhL (.fn (.func 83) [] [.ptr h.length 0 0]) (.tup []) (funT g.name (txts g.args)) (h ++ [AB.cells 66 2 [g.atom]]) hs0 (by omega) (FunW.fn hk)
    refine Qh Tryz.func37 rfl Tryz.call37 Tryz.ntmps37 (congrArg Array.toList Tryz.results37) (by simp) ?_
    repeat (first | ((first | (with_reducible (first | refine Qa fun K E hK hE => ?_ | refine Qs cr ?_ | refine FunW.ret (FunW.call c1) ?_))); simp -implicitDefEqProofs only [Qd, Qb, Qg, OpW, QR, aop, undef, AS.ev, Qc, QF, Qk, QD, QlK, AV.Qk5, QlX, QlY, QA, QI, QlZ, ↓reduceIte, QlQ, QlR, Nat.reduceAdd, Nat.reduceLT, Nat.reduceEqDiff, QlP, Qmb, QK, QL, QO, QlD, QlF, QlS, QlW, ti66, XB, Y7]) | (with_reducible refine Qn ?_) | ((with_reducible refine hK _ ?_); clear hK))
    simp only [QN, Qp, Qu, upd, ↓reduceIte, QlJ, QlN]; first | refine Qe (htake _ _) (.keep (.v _)) ⟨by rw [txtA, if_pos hr], rfl⟩ | refine Qe List.take_length (.keep (.v _)) ⟨by rw [txtA, if_pos hr], rfl⟩
theorem QbT {g : G} (h : Q4 g = true) : lexL g.args ∧ g.args.length ≤ 6 ∧ 1 ≤ (ZO g).size ∧ (ZO g).size ≤ 15000 ∧
    (g.op = 0 ∨ g.op = 1 ∨ g.op = 2 ∨ g.op = 11 ∨ g.op = 12 ∨ (3 ≤ g.op ∧ g.op ≤ 10 ∧ g.args.length = 2)) := by
  rw [Q4] at h
  by_cases k0 : g.op = 0
  · rw [if_pos k0] at h
    obtain ⟨h1, h2, h3, h4⟩ := QbR h
    rw [ZO, if_pos k0]
    exact ⟨h1, h2, h3, h4, .inl k0⟩
  rw [if_neg k0] at h
  simp only [Bool.and_eq_true, decide_eq_true_eq] at h
  obtain ⟨h1, hn, h2, h3⟩ := h
  have hl := Qcg g.args 200 20 h3
  have hr := Qdd g.args 200 20 (by omega) h3
  have hgn : ZY g.op ≤ 2 := by rw [ZY]; split <;> (try split) <;> decide
  refine ⟨hl.1, by omega, ?_⟩
  rw [ZO, if_neg k0]
  by_cases k1 : g.op = 1
  · rw [if_pos k1]; exact ⟨by decide, by decide, by omega⟩
  rw [if_neg k1]
  by_cases k2 : g.op = 2
  · rw [if_pos k2]; exact ⟨by decide, by decide, by omega⟩
  rw [if_neg k2]
  have hl2 := hl.2.1
  by_cases k11 : g.op = 11
  · rw [if_pos k11]
    refine ⟨Qdl (by decide), ?_, by omega⟩
    have := QgL intB (txts g.args)
    have : intB.size = 3 := rfl
    omega
  rw [if_neg k11]
  by_cases k12 : g.op = 12
  · rw [if_pos k12]
    refine ⟨Qdl (by decide), ?_, by omega⟩
    have := QgL grdB (txts g.args)
    have : grdB.size = 6 := rfl
    omega
  rw [if_neg k12]
  have hn2 : g.args.length = 2 := by
    have : ZY g.op = 2 := by simp [ZY, k1, k2, k11, k12]
    omega
  have hb := QeD g.op (by omega) (by omega)
  match hg : g.args, hn2 with
  | [a, c], _ =>
    rw [hg] at hl2 hr
    simp only [txts, pairT, Qt, QlS, QlW, List.sum_cons, List.sum_nil] at hl2 ⊢
    have : ({ data := #[32] } : ByteArray).size = 1 := rfl
    refine ⟨by omega, by omega, .inr (.inr (.inr (.inr (.inr ⟨by omega, by omega, rfl⟩))))⟩
theorem Qjr {h : AH} {i j p : Nat} (hi : i < h.length) (hj : j < h.length) (hij : i ≠ j) (hpi : i ≠ p) (hpj : j ≠ p) (g : G) (gp : h[p]? = some (.cells 53 3 [g.goal])) (hr : Q4 g = true)
    (hG : XO (HB h i j true (.empty))) (u : Bool) (tx : ByteArray) (hs : tx.size + (ZO g).size ≤ 140737488355328) :
    Wri 85 [.ptr i 0 0, .ptr p 0 0] h i j u tx (ZO g) := by
  obtain ⟨hx, hl, _, _, ho⟩ := QbT hr
  have hl' : g.args.length ≤ 1000000 := by omega
  rcases ho with ho | ho | ho | ho | ho | ⟨h3, h10, h2⟩
  · have e : ZO g = funT g.name (txts g.args) := by simp [ZO, ho]
    rw [e] at hs ⊢; exact Qip hi hj hij hpi hpj g gp hx hl' ho hG u tx hs
  · have e : ZO g = QeJ := by simp [ZO, ho]
    rw [e] at hs ⊢; exact Qio hi hj hij hpi hpj g gp hx hl' ho hG u tx hs
  · have e : ZO g = QiM := by simp [ZO, ho]
    rw [e] at hs ⊢; exact Qh5 hi hj hij hpi hpj g gp hx hl' ho hG u tx hs
  · have e : ZO g = funT intB (txts g.args) := by simp [ZO, ho]
    rw [e] at hs ⊢; exact QiX hi hj hij hpi hpj g gp hx hl' ho hG u tx hs
  · have e : ZO g = funT grdB (txts g.args) := by simp [ZO, ho]
    rw [e] at hs ⊢; exact Qf0 hi hj hij hpi hpj g gp hx hl' ho hG u tx hs
  · have e : ZO g = pairT g.op (txts g.args) := by
      rw [ZO, if_neg (by omega), if_neg (by omega), if_neg (by omega), if_neg (by omega), if_neg (by omega)]
    rw [e] at hs ⊢
    obtain ⟨op, n, l⟩ := g
    match l, h2 with
    | [a, c], _ => exact Qim hi hj hij hpi hpj op n a c gp hx h3 h10 hG u tx hs
theorem QeQ (g : G) (hl : g.args.length ≤ 1000000) (h : AH) (hG : XO h) : Yd Tryz.prog 39 [g.goal] h fun o h' => o = .ret (.v (.string (txtG g))) ∧ h' = h := by
  have cr := ZJ g
  cases hr : Q4 g with
  | false =>
    rw [hr] at cr
    have c1 := QiD (.fn (.func 85) [] [.ptr h.length 0 0])
    refine Qh Tryz.func39 rfl Tryz.call39 Tryz.ntmps39 (congrArg Array.toList Tryz.results39) (by simp) ?_
    repeat (first | ((first | (with_reducible (first | refine Qa fun K E hK hE => ?_ | refine Qs cr ?_ | refine Qs c1 ?_))); simp -implicitDefEqProofs only [Qd, Qb, Qg, OpW, QR, aop, undef, AS.ev, Qc, QF, Qk, QD, QlK, AV.Qk5, QlX, QlY, QC, QA, QI, QlZ, ↓reduceIte, QlQ, QlR, Nat.reduceAdd, Nat.reduceLT, Nat.reduceEqDiff, QlP, Qmb, QK, QL, QO, QlD, QlF, QlS, QlW, ti53, Q3, Yb]) | (with_reducible refine Qn ?_) | ((with_reducible refine hK _ ?_); clear hK))
    simp only [QN, Qp, Qu, upd, ↓reduceIte, QlJ, QlN]; first | refine Qe (htake _ _) (.keep (.v _)) ⟨by rw [txtG, if_neg (by rw [hr]; decide)], rfl⟩ | refine Qe List.take_length (.keep (.v _)) ⟨by rw [txtG, if_neg (by rw [hr]; decide)], rfl⟩
  | true =>
    rw [hr] at cr
    obtain ⟨hx, h6, hs0, hs1, _⟩ := QbT hr
    have hk := Qjr (h := h ++ [AB.cells 53 3 [g.goal]] ++ [AB.dead, AB.dead]) (i := (h ++ [AB.cells 53 3 [g.goal]]).length) (j := (h ++ [AB.cells 53 3 [g.goal]]).length + 1) (p := h.length)
      (by simp) (by simp) (by omega) (by simp) (by simp; omega) g (by simp) hr (QhA hG _) false .empty (by rw [show (ByteArray.empty).size = 0 from rfl]; omega)
    rw [Wri, ByteArray.empty_append] at hk
    have c1 := QhL (.fn (.func 85) [] [.ptr h.length 0 0]) (.tup []) (ZO g) (h ++ [AB.cells 53 3 [g.goal]]) hs0 (by omega) (FunW.fn hk)
    refine Qh Tryz.func39 rfl Tryz.call39 Tryz.ntmps39 (congrArg Array.toList Tryz.results39) (by simp) ?_
    repeat (first | ((first | (with_reducible (first | refine Qa fun K E hK hE => ?_ | refine Qs cr ?_ | refine FunW.ret (FunW.call c1) ?_))); simp -implicitDefEqProofs only [Qd, Qb, Qg, OpW, QR, aop, undef, AS.ev, Qc, QF, Qk, QD, QlK, AV.Qk5, QlX, QlY, QC, QA, QI, QlZ, ↓reduceIte, QlQ, QlR, Nat.reduceAdd, Nat.reduceLT, Nat.reduceEqDiff, QlP, Qmb, QK, QL, QO, QlD, QlF, QlS, QlW, ti53, Q3, Yb]) | (with_reducible refine Qn ?_) | ((with_reducible refine hK _ ?_); clear hK))
    simp only [QN, Qp, Qu, upd, ↓reduceIte, QlJ, QlN]; first | refine Qe (htake _ _) (.keep (.v _)) ⟨by rw [txtG, if_pos hr], rfl⟩ | refine Qe List.take_length (.keep (.v _)) ⟨by rw [txtG, if_pos hr], rfl⟩
end Go.Proofs.YtenheconhibonaaGreatDoor.Ab
set_option maxRecDepth 4000
namespace Go.Proofs.YtenheconhibonaaGreatDoor.Ab
open Go.Proofs
def HS (h : AH) (i j : Nat) (u : Bool) (tx : ByteArray) : AH := hs2 h i (bw 74 i j u tx) j (.grow 5 1 tx.size)
theorem sTy : BTy 74 := .inl rfl
section
variable {h : AH} {i j : Nat} (hi : i < h.length) (hj : j < h.length) (hij : i ≠ j)
theorem QhQ (h : AH) (i j : Nat) (u : Bool) (tx : ByteArray) : (HS h i j u tx).length = h.length := Zl _ _ _ _ _
theorem Qhz (h : AH) (i j : Nat) (u : Bool) (tx : ByteArray) (L : AH) (k : Nat) : (HS h i j u tx ++ L)[h.length + k]? = L[k]? := QiR _ _ _ _
theorem QeY (h : AH) (i j : Nat) (u : Bool) (tx : ByteArray) (z : AB) (L : AH) (k : Nat) : (HS h i j u tx ++ L).set (h.length + k) z = HS h i j u tx ++ L.set k z := QhM _ _ _ _ _
include hi hj in
theorem Qhs (u : Bool) (tx : ByteArray) (L : AH) : HS (h ++ L) i j u tx = HS h i j u tx ++ L := Qft hi hj _ _ _
include hi hij in
theorem Qe6 (u : Bool) (tx : ByteArray) (L : AH) : (HS h i j u tx ++ L)[i]? = some (.cells 74 2 [.agg [if u then .ptr i 0 0 else .v (.pointer none), .sl 1 (XF tx) (some j)]]) := Qf7 hi hij _ _ _
theorem QfF {h : AH} (hG : XO h) (l : AH) (hl : l.length = 2) (u : Bool) (tx : ByteArray) : XO (HS (h ++ l) h.length (h.length + 1) u tx) := by
  obtain ⟨k, ty, fr, e⟩ := hG
  refine ⟨k, ty, fr, ?_⟩
  have hk := QT e
  rw [HS, YI _ _ (by omega) (by omega), List.getElem?_append_left hk, e]
end
theorem sstr {h : AH} {i j : Nat} (hi : i < h.length) (hj : j < h.length) (hij : i ≠ j) (u : Bool) (tx s : ByteArray) (hs : tx.size + s.size ≤ 140737488355328) :
    Yd Tryz.prog 35 [.ptr i 0 0, .v (.string s)] (HS h i j u tx) fun o h' => o = .ret (.tup [.i s.size, .v .nilIface]) ∧ h' = HS h i j true (tx ++ s) :=
  Qa3 sTy hij u tx s hs h hi hj
theorem Qi0 (h : AH) (u : Bool) (tx : ByteArray) : HS (h ++ [AB.dead, AB.dead]) h.length (h.length + 1) u tx = h ++ [bw 74 h.length (h.length + 1) u tx, AB.grow 5 1 tx.size] := by
  simp [HS, hs2]
theorem Qcu (h L : AH) (tx : ByteArray) (h0 : 0 < tx.size) (hs : tx.size ≤ 140737488355328) : Yd Tryz.prog 41 [.ptr h.length 0 0] (HS (h ++ [AB.dead, AB.dead]) h.length (h.length + 1) true tx ++ L)
    fun o h' => o = .ret (.v (.string tx)) ∧ h' = h ++ ([bw 74 h.length (h.length + 1) true tx, AB.gone] ++ L) := by
  have c := (Qbr (ty := 74) (i := h.length) (j := h.length + 1) (by omega) tx h0 hs).app (h := h ++ [AB.dead, AB.dead]) (by simp) (by simp) L
  rw [← HS] at c
  have e : hs2 (h ++ [AB.dead, AB.dead]) h.length (bw 74 h.length (h.length + 1) true tx) (h.length + 1) .gone = h ++ [bw 74 h.length (h.length + 1) true tx, AB.gone] := by
    simp [hs2]
  rw [e, List.append_assoc] at c
  exact c
section
variable {X : Type} (f : X → AV) (tx : X → ByteArray) (fv : AV)
theorem Qhl (h : AH) : Yd Tryz.prog 36 [.sl 2 [] none, fv] h fun o h' => o = .ret (.v (.string .empty)) ∧ h' = h := by
  have c := QaB (ty := 74) (i := h.length) (h ++ [AB.dead]) (by simp)
  have e : hs (h ++ [AB.dead]) h.length (bw00 74) = h ++ [bw00 74] := by simp [hs]
  rw [e, bw00] at c
  refine Qh Tryz.func36 rfl Tryz.call36 Tryz.ntmps36 (congrArg Array.toList Tryz.results36) (by simp) ?_
  iterate 8 (try (first | (((with_reducible refine Qa fun K E hK hE => ?_)); simp -implicitDefEqProofs only [Qd, Qb, Qg, OpW, aop, undef, AS.ev, Qc, Qq, QF, Qk, QD, QlK, AV.Qk5, Qy, QlX, QlY, QP, Xc, QlZ, ↓reduceIte, QlQ, QlR, Nat.reduceAdd, Nat.reduceLT, Nat.reduceEqDiff, QlP, aLen, QlF, goInt, Qmp, un22, zi74]) | (with_reducible (first | refine Qi fun K hK => ?_ | refine Qm ?_)) | ((with_reducible refine hK _ ?_); clear hK)))
  obtain ⟨I, hI⟩ : ∃ I : Nat → AS → Prop, I = fun m' s => m' = 0 ∧ s.tm 1 = fv ∧ s.tm 5 = .ptr h.length 0 0 ∧ s.tm 8 = .sl 2 [] none ∧ s.tm 9 = .i 0 ∧ s.tm 10 = .i 0 ∧ s.h = h ++ [.cells 74 2 [.agg [.v (.pointer none), .v (.slice none 0 0)]]] := ⟨_, rfl⟩; refine Q9 I ?_ (m := 0) ?_
  · intro m' s hs; rw [hI] at hs; obtain ⟨tm, hp⟩ := s; dsimp only at hs; obtain ⟨rfl, t1, t5, t8, t9, t10, rfl⟩ := hs
    have z : ¬ ((0 : Int) < 0) := by decide
    repeat (first | ((first | (with_reducible (first | refine Qa fun K E hK hE => ?_ | refine FunW.ret (FunW.call c) ?_))); simp -implicitDefEqProofs only [Qd, Qb, Qg, OpW, QR, aop, AS.ev, Qc, Qk, ↓reduceIte, Nat.reduceLT, Nat.reduceEqDiff, aBin, QlF, QlS, QlW, QW, Qma, t5, t9, t10, z]) | (with_reducible (first | refine Qi fun K hK => ?_ | refine Qn ?_ | refine Q2 ?_ | refine Qf ?_ | refine QU ?_ | refine QV ?_)) | ((with_reducible refine hK _ ?_); clear hK) | (clear hK; (with_reducible refine hK _ ?_); clear hK) | (refine Qj rfl ?_; simp only [↓reduceIte, QlH]))
    simp only [QN, Qp, Qu, upd, ↓reduceIte, QlJ, QlN]; first | refine Qe (htake _ _) (.keep (.v _)) ⟨rfl, rfl⟩ | refine Qe List.take_length (.keep (.v _)) ⟨rfl, rfl⟩
  · rw [hI]
    exact ⟨rfl, rfl, rfl, rfl, rfl, rfl, rfl⟩
theorem Qgy (hfc : ∀ x, (f x).isAgg = true ∧ (f x).cells.length = 2 ∧ (f x).cells.all AV.cell1 = true) (l : List X) (hl : 0 < l.length) (hl2 : l.length ≤ 1000000) (h : AH) (hG : XO h)
    (ih : ∀ x ∈ l, ∀ h : AH, XO h → FunW Tryz.prog fv [f x] h fun o h' => o = .ret (.v (.string (tx x))) ∧ h' = h)
    (h0 : 0 < (XV true (l.map tx)).size) (hs : (XV true (l.map tx)).size ≤ 140737488355328) :
    Yd Tryz.prog 36 [.sl 2 (vs f l) none, fv] h fun o h' => o = .ret (.v (.string (XV true (l.map tx)))) ∧ h' = h := by
  have hi : h.length < (h ++ [AB.dead, AB.dead]).length := by simp
  have hj : h.length + 1 < (h ++ [AB.dead, AB.dead]).length := by simp
  have hle : (h ++ [AB.dead, AB.dead]).length = h.length + 2 := by simp
  have f1 := fun u tx => (QhQ (h ++ [AB.dead, AB.dead]) h.length (h.length + 1) u tx).trans hle
  have f3 : ∀ u tx L k, (HS (h ++ [AB.dead, AB.dead]) h.length (h.length + 1) u tx ++ L)[h.length + 2 + k]? = L[k]? := fun u tx L k => by rw [← hle]; exact Qhz _ _ _ u tx L k
  have f2 : ∀ u tx L, (HS (h ++ [AB.dead, AB.dead]) h.length (h.length + 1) u tx ++ L)[h.length + 2]? = L[0]? := fun u tx L => f3 u tx L 0
  have f5 : ∀ u tx z L k, (HS (h ++ [AB.dead, AB.dead]) h.length (h.length + 1) u tx ++ L).set (h.length + 2 + k) z = HS (h ++ [AB.dead, AB.dead]) h.length (h.length + 1) u tx ++ L.set k z := fun u tx z L k => by rw [← hle]; exact QeY _ _ _ u tx z L k
  have f4 : ∀ u tx z L, (HS (h ++ [AB.dead, AB.dead]) h.length (h.length + 1) u tx ++ L).set (h.length + 2) z = HS (h ++ [AB.dead, AB.dead]) h.length (h.length + 1) u tx ++ L.set 0 z := fun u tx z L => f5 u tx z L 0
  have f6 := fun u tx L => Qe6 (h := h ++ [AB.dead, AB.dead]) (i := h.length) (j := h.length + 1) hi (by omega) u tx L
  have gapp := fun u tx L => Qhs (h := h ++ [AB.dead, AB.dead]) (i := h.length) (j := h.length + 1) hi hj u tx L
  refine Qh Tryz.func36 rfl Tryz.call36 Tryz.ntmps36 (congrArg Array.toList Tryz.results36) (by simp) ?_
  iterate 8 (try (first | (((with_reducible refine Qa fun K E hK hE => ?_)); simp -implicitDefEqProofs only [Qd, Qb, Qg, OpW, aop, undef, AS.ev, Qc, Qq, QF, Qk, QD, QlK, AV.Qk5, Qy, QlX, QlY, QP, Xc, QlZ, ↓reduceIte, QlQ, QlR, Nat.reduceAdd, Nat.reduceLT, Nat.reduceEqDiff, QlP, aLen, QlF, goInt, un22, zi74, QG]) | (with_reducible (first | refine Qi fun K hK => ?_ | refine Qm ?_)) | ((with_reducible refine hK _ ?_); clear hK)))
  refine ZS h.length 74 5 (.pointer none) (by simp) ?_
  obtain ⟨I, hI⟩ : ∃ I : Nat → AS → Prop, I = fun m' s => ∃ (k : Nat) (cur : ByteArray), m' = l.length - k ∧ k ≤ l.length ∧ cur ++ XV (decide (k = 0)) ((l.drop k).map tx) = XV true (l.map tx) ∧ s.tm 1 = fv ∧ s.tm 5 = .ptr h.length 0 0 ∧ s.tm 8 = .sl 2 (vs f l) none ∧ s.tm 9 = .i l.length ∧ s.tm 10 = .i k ∧ (∃ L, s.h = HS (h ++ [AB.dead, AB.dead]) h.length (h.length + 1) (decide (0 < k)) cur ++ L) := ⟨_, rfl⟩; refine Q9 I ?_ (m := l.length) ?_
  · intro m' s hs; rw [hI] at hs; obtain ⟨tm, hp⟩ := s; dsimp only at hs; obtain ⟨k, cur, rfl, hk, he, t1, t5, t8, t9, t10, L, rfl⟩ := hs
    by_cases hlt : k < l.length
    · have hg := YN f hlt
      have z1 : (k : Int) < l.length := by omega
      obtain ⟨hag, hcl, hc1⟩ := hfc l[k]
      have hsz : cur.size + (XV (decide (k = 0)) ((l.drop k).map tx)).size = (XV true (l.map tx)).size := by rw [← Qt, he]
      have hd : (l.drop k).map tx = tx (l[k]) :: (l.drop (k + 1)).map tx := by rw [List.drop_eq_getElem_cons hlt]; rfl
      have hcm : YP.size = 2 := rfl
      rw [hd, XV, Qt] at hsz
      rw [hd, XV] at he
      have glen : ∀ L : AH, h.length < (h ++ [AB.dead, AB.dead] ++ L).length ∧ h.length + 1 < (h ++ [AB.dead, AB.dead] ++ L).length := fun L => by rw [List.length_append]; omega
      have hG' := fun u tx L => HasG.app (QfF hG [AB.dead, AB.dead] rfl u tx) L
      by_cases hk0 : k = 0
      · rw [decide_eq_true hk0, if_pos rfl] at hsz he
        have z2 : ¬ (k : Int) > 0 := by omega
        have c2 := ih l[k] (List.getElem_mem hlt) (HS (h ++ [AB.dead, AB.dead]) h.length (h.length + 1) (decide (0 < k)) cur ++ (L ++ [AB.cells 66 2 [f l[k]]])) (hG' _ _ _)
        have c1 := sstr (h := h ++ [AB.dead, AB.dead] ++ (L ++ [AB.cells 66 2 [f l[k]]])) (glen _).1 (glen _).2 (by omega) (decide (0 < k)) cur (tx (l[k])) (by omega)
        rw [gapp, gapp] at c1
        repeat (first | ((first | (with_reducible (first | refine Qa fun K E hK hE => ?_ | refine Qo fun K E hK hE => ?_ | refine FunW.ret c2 ?_ | refine FunW.ret (FunW.call c1) ?_))); simp -implicitDefEqProofs only [Qd, Qb, Qg, OpW, QR, aop, undef, AS.ev, Qc, QY, Qq, Qk, AV.Qk5, Qy, QM, QlX, QlY, QA, QP, QlZ, ↓reduceIte, QlQ, QlR, Nat.reduceAdd, Nat.reduceLT, Nat.reduceEqDiff, QlP, Qmb, QK, QL, Xj, Q0, QJ, aBin, QO, Yg, hlen, happ, QlD, Ql7, QlF, QlS, QlW, QW, Q1, Xf, Ql9, Qma, Qmg, Qmf, ei22, ti66, zi66, t1, t5, t8, t9, t10, z1, z2, hg, hcl, hag, hc1, f1, f3, f5, QG]) | (with_reducible (first | refine Qi fun K hK => ?_ | refine Qm ?_ | refine Qv ?_ | refine Qf ?_ | refine Qw ?_)) | ((with_reducible refine hK _ ?_); clear hK) | (refine Qj rfl ?_; simp only [↓reduceIte, QlH]))
        refine XD.mk (m' := l.length - (k + 1)) (by omega) ?_
        rw [hI]
        refine ⟨k + 1, cur ++ tx (l[k]), rfl, hlt, ?_, t1, t5, t8, t9, ?_, _, rfl⟩
        · rw [decide_eq_false (Nat.succ_ne_zero k), ByteArray.append_assoc]; exact he
        · simp only [upd, ↓reduceIte]
          rw [Xe (by omega)]
      · rw [decide_eq_false hk0, if_neg (by decide), Qt] at hsz
        rw [decide_eq_false hk0, if_neg (by decide)] at he
        have z2 : (k : Int) > 0 := by omega
        have c0 := sstr (h := h ++ [AB.dead, AB.dead] ++ (L ++ [AB.cells 66 2 [f l[k]]])) (glen _).1 (glen _).2 (by omega) (decide (0 < k)) cur YP (by omega)
        rw [gapp, gapp] at c0
        have c2 := ih l[k] (List.getElem_mem hlt) (HS (h ++ [AB.dead, AB.dead]) h.length (h.length + 1) true (cur ++ YP) ++ (L ++ [AB.cells 66 2 [f l[k]]])) (hG' _ _ _)
        have c1 := sstr (h := h ++ [AB.dead, AB.dead] ++ (L ++ [AB.cells 66 2 [f l[k]]])) (glen _).1 (glen _).2 (by omega) true (cur ++ YP) (tx (l[k])) (by rw [Qt]; omega)
        rw [gapp, gapp] at c1
        repeat (first | ((first | (with_reducible (first | refine Qa fun K E hK hE => ?_ | refine Qo fun K E hK hE => ?_ | refine FunW.ret c2 ?_ | refine FunW.ret (FunW.call c1) ?_ | refine FunW.ret (FunW.call c0) ?_))); simp -implicitDefEqProofs only [Qd, Qb, Qg, OpW, QR, aop, undef, AS.ev, Qc, QY, Qq, QF, Qk, AV.Qk5, Qy, QM, QlX, QlY, QA, QP, QlZ, ↓reduceIte, QlQ, QlR, Nat.reduceAdd, Nat.reduceLT, Nat.reduceEqDiff, QlP, Qmb, QK, QL, Xj, Q0, QJ, aBin, QO, Yg, hlen, happ, QlD, Ql7, QlF, QlS, QlW, QW, Q1, Xf, Ql9, Qmg, Qmf, ei22, ti66, zi66, t1, t5, t8, t9, t10, z1, z2, hg, hcl, hag, hc1, f1, f3, f5, QG]) | (with_reducible (first | refine Qi fun K hK => ?_ | refine Qm ?_ | refine Qv ?_ | refine Qf ?_ | refine Qw ?_)) | ((with_reducible refine hK _ ?_); clear hK) | (refine Qj rfl ?_; simp only [↓reduceIte]))
        refine XD.mk (m' := l.length - (k + 1)) (by omega) ?_
        rw [hI]
        refine ⟨k + 1, (cur ++ YP) ++ tx (l[k]), rfl, hlt, ?_, t1, t5, t8, t9, ?_, _, rfl⟩
        · rw [decide_eq_false (Nat.succ_ne_zero k)]; simp only [ByteArray.append_assoc] at he ⊢; exact he
        · simp only [upd, ↓reduceIte]
          rw [Xe (by omega)]
    · have hkn : k = l.length := by omega
      subst hkn
      have z1 : ¬ ((l.length : Nat) : Int) < l.length := by omega
      rw [List.drop_length, List.map_nil, XV, ByteArray.append_empty] at he
      rw [decide_eq_true hl]
      rw [← he] at h0 hs
      have c := Qcu h L cur h0 hs
      repeat (first | ((first | (with_reducible (first | refine Qa fun K E hK hE => ?_ | refine FunW.ret (FunW.call c) ?_))); simp -implicitDefEqProofs only [Qd, Qb, Qg, OpW, QR, aop, AS.ev, Qc, Qk, ↓reduceIte, Nat.reduceLT, Nat.reduceEqDiff, aBin, QlF, QlS, QlW, Ql5, Ql4, QW, Qma, t5, t9, t10, z1]) | (with_reducible (first | refine Qi fun K hK => ?_ | refine Qn ?_ | refine Q2 ?_ | refine Qf ?_ | refine QU ?_ | refine QV ?_)) | ((with_reducible refine hK _ ?_); clear hK) | (clear hK; (with_reducible refine hK _ ?_); clear hK) | (refine Qj rfl ?_; simp only [↓reduceIte, QlH]))
      simp only [QN, Qp, Qu, upd, ↓reduceIte, QlJ, QlN]; first | refine Qe (htake _ _) (.keep (.v _)) ⟨by rw [he], rfl⟩ | refine Qe List.take_length (.keep (.v _)) ⟨by rw [he], rfl⟩
  · rw [hI]
    refine ⟨0, .empty, rfl, by omega, by rw [ByteArray.empty_append]; rfl, rfl, rfl, rfl, rfl, rfl, [], ?_⟩
    rw [Qi0]
    simp [bw]; rfl
end
section
variable {X : Type} (f : X → AV) (tx : X → ByteArray) (fv : AV)
theorem QgZ (h : AH) : Yd Tryz.prog 38 [.sl 3 [] none, fv] h fun o h' => o = .ret (.v (.string .empty)) ∧ h' = h := by
  have c := QaB (ty := 74) (i := h.length) (h ++ [AB.dead]) (by simp)
  have e : hs (h ++ [AB.dead]) h.length (bw00 74) = h ++ [bw00 74] := by simp [hs]
  rw [e, bw00] at c
  refine Qh Tryz.func38 rfl Tryz.call38 Tryz.ntmps38 (congrArg Array.toList Tryz.results38) (by simp) ?_
  iterate 8 (try (first | (((with_reducible refine Qa fun K E hK hE => ?_)); simp -implicitDefEqProofs only [Qd, Qb, Qg, OpW, aop, undef, AS.ev, Qc, Qq, QF, Qk, QD, QlK, AV.Qk5, Qy, QlX, QlY, QP, Xc, QlZ, ↓reduceIte, QlQ, QlR, Nat.reduceAdd, Nat.reduceLT, Nat.reduceEqDiff, QlP, aLen, QlF, goInt, Qmp, un23, zi74]) | (with_reducible (first | refine Qi fun K hK => ?_ | refine Qm ?_)) | ((with_reducible refine hK _ ?_); clear hK)))
  obtain ⟨I, hI⟩ : ∃ I : Nat → AS → Prop, I = fun m' s => m' = 0 ∧ s.tm 1 = fv ∧ s.tm 5 = .ptr h.length 0 0 ∧ s.tm 8 = .sl 3 [] none ∧ s.tm 9 = .i 0 ∧ s.tm 10 = .i 0 ∧ s.h = h ++ [.cells 74 2 [.agg [.v (.pointer none), .v (.slice none 0 0)]]] := ⟨_, rfl⟩; refine Q9 I ?_ (m := 0) ?_
  · intro m' s hs; rw [hI] at hs; obtain ⟨tm, hp⟩ := s; dsimp only at hs; obtain ⟨rfl, t1, t5, t8, t9, t10, rfl⟩ := hs
    have z : ¬ ((0 : Int) < 0) := by decide
    repeat (first | ((first | (with_reducible (first | refine Qa fun K E hK hE => ?_ | refine FunW.ret (FunW.call c) ?_))); simp -implicitDefEqProofs only [Qd, Qb, Qg, OpW, QR, aop, AS.ev, Qc, Qk, ↓reduceIte, Nat.reduceLT, Nat.reduceEqDiff, aBin, QlF, QlS, QlW, QW, Qma, t5, t9, t10, z]) | (with_reducible (first | refine Qi fun K hK => ?_ | refine Qn ?_ | refine Q2 ?_ | refine Qf ?_ | refine QU ?_ | refine QV ?_)) | ((with_reducible refine hK _ ?_); clear hK) | (clear hK; (with_reducible refine hK _ ?_); clear hK) | (refine Qj rfl ?_; simp only [↓reduceIte, QlH]))
    simp only [QN, Qp, Qu, upd, ↓reduceIte, QlJ, QlN]; first | refine Qe (htake _ _) (.keep (.v _)) ⟨rfl, rfl⟩ | refine Qe List.take_length (.keep (.v _)) ⟨rfl, rfl⟩
  · rw [hI]
    exact ⟨rfl, rfl, rfl, rfl, rfl, rfl, rfl⟩
theorem QfK (hfc : ∀ x, (f x).isAgg = true ∧ (f x).cells.length = 3 ∧ (f x).cells.all AV.cell1 = true) (l : List X) (hl : 0 < l.length) (hl2 : l.length ≤ 1000000) (h : AH) (hG : XO h)
    (ih : ∀ x ∈ l, ∀ h : AH, XO h → FunW Tryz.prog fv [f x] h fun o h' => o = .ret (.v (.string (tx x))) ∧ h' = h)
    (h0 : 0 < (XV true (l.map tx)).size) (hs : (XV true (l.map tx)).size ≤ 140737488355328) :
    Yd Tryz.prog 38 [.sl 3 (vs f l) none, fv] h fun o h' => o = .ret (.v (.string (XV true (l.map tx)))) ∧ h' = h := by
  have hi : h.length < (h ++ [AB.dead, AB.dead]).length := by simp
  have hj : h.length + 1 < (h ++ [AB.dead, AB.dead]).length := by simp
  have hle : (h ++ [AB.dead, AB.dead]).length = h.length + 2 := by simp
  have f1 := fun u tx => (QhQ (h ++ [AB.dead, AB.dead]) h.length (h.length + 1) u tx).trans hle
  have f3 : ∀ u tx L k, (HS (h ++ [AB.dead, AB.dead]) h.length (h.length + 1) u tx ++ L)[h.length + 2 + k]? = L[k]? := fun u tx L k => by rw [← hle]; exact Qhz _ _ _ u tx L k
  have f2 : ∀ u tx L, (HS (h ++ [AB.dead, AB.dead]) h.length (h.length + 1) u tx ++ L)[h.length + 2]? = L[0]? := fun u tx L => f3 u tx L 0
  have f5 : ∀ u tx z L k, (HS (h ++ [AB.dead, AB.dead]) h.length (h.length + 1) u tx ++ L).set (h.length + 2 + k) z = HS (h ++ [AB.dead, AB.dead]) h.length (h.length + 1) u tx ++ L.set k z := fun u tx z L k => by rw [← hle]; exact QeY _ _ _ u tx z L k
  have f4 : ∀ u tx z L, (HS (h ++ [AB.dead, AB.dead]) h.length (h.length + 1) u tx ++ L).set (h.length + 2) z = HS (h ++ [AB.dead, AB.dead]) h.length (h.length + 1) u tx ++ L.set 0 z := fun u tx z L => f5 u tx z L 0
  have f6 := fun u tx L => Qe6 (h := h ++ [AB.dead, AB.dead]) (i := h.length) (j := h.length + 1) hi (by omega) u tx L
  have gapp := fun u tx L => Qhs (h := h ++ [AB.dead, AB.dead]) (i := h.length) (j := h.length + 1) hi hj u tx L
  refine Qh Tryz.func38 rfl Tryz.call38 Tryz.ntmps38 (congrArg Array.toList Tryz.results38) (by simp) ?_
  iterate 8 (try (first | (((with_reducible refine Qa fun K E hK hE => ?_)); simp -implicitDefEqProofs only [Qd, Qb, Qg, OpW, aop, undef, AS.ev, Qc, Qq, QF, Qk, QD, QlK, AV.Qk5, Qy, QlX, QlY, QP, Xc, QlZ, ↓reduceIte, QlQ, QlR, Nat.reduceAdd, Nat.reduceLT, Nat.reduceEqDiff, QlP, aLen, QlF, goInt, un23, zi74, QG]) | (with_reducible (first | refine Qi fun K hK => ?_ | refine Qm ?_)) | ((with_reducible refine hK _ ?_); clear hK)))
  refine ZS h.length 74 5 (.pointer none) (by simp) ?_
  obtain ⟨I, hI⟩ : ∃ I : Nat → AS → Prop, I = fun m' s => ∃ (k : Nat) (cur : ByteArray), m' = l.length - k ∧ k ≤ l.length ∧ cur ++ XV (decide (k = 0)) ((l.drop k).map tx) = XV true (l.map tx) ∧ s.tm 1 = fv ∧ s.tm 5 = .ptr h.length 0 0 ∧ s.tm 8 = .sl 3 (vs f l) none ∧ s.tm 9 = .i l.length ∧ s.tm 10 = .i k ∧ (∃ L, s.h = HS (h ++ [AB.dead, AB.dead]) h.length (h.length + 1) (decide (0 < k)) cur ++ L) := ⟨_, rfl⟩; refine Q9 I ?_ (m := l.length) ?_
  · intro m' s hs; rw [hI] at hs; obtain ⟨tm, hp⟩ := s; dsimp only at hs; obtain ⟨k, cur, rfl, hk, he, t1, t5, t8, t9, t10, L, rfl⟩ := hs
    by_cases hlt : k < l.length
    · have hg := YN f hlt
      have z1 : (k : Int) < l.length := by omega
      obtain ⟨hag, hcl, hc1⟩ := hfc l[k]
      have hsz : cur.size + (XV (decide (k = 0)) ((l.drop k).map tx)).size = (XV true (l.map tx)).size := by rw [← Qt, he]
      have hd : (l.drop k).map tx = tx (l[k]) :: (l.drop (k + 1)).map tx := by rw [List.drop_eq_getElem_cons hlt]; rfl
      have hcm : YP.size = 2 := rfl
      rw [hd, XV, Qt] at hsz
      rw [hd, XV] at he
      have glen : ∀ L : AH, h.length < (h ++ [AB.dead, AB.dead] ++ L).length ∧ h.length + 1 < (h ++ [AB.dead, AB.dead] ++ L).length := fun L => by rw [List.length_append]; omega
      have hG' := fun u tx L => HasG.app (QfF hG [AB.dead, AB.dead] rfl u tx) L
      by_cases hk0 : k = 0
      · rw [decide_eq_true hk0, if_pos rfl] at hsz he
        have z2 : ¬ (k : Int) > 0 := by omega
        have c2 := ih l[k] (List.getElem_mem hlt) (HS (h ++ [AB.dead, AB.dead]) h.length (h.length + 1) (decide (0 < k)) cur ++ (L ++ [AB.cells 53 3 [f l[k]]])) (hG' _ _ _)
        have c1 := sstr (h := h ++ [AB.dead, AB.dead] ++ (L ++ [AB.cells 53 3 [f l[k]]])) (glen _).1 (glen _).2 (by omega) (decide (0 < k)) cur (tx (l[k])) (by omega)
        rw [gapp, gapp] at c1
        repeat (first | ((first | (with_reducible (first | refine Qa fun K E hK hE => ?_ | refine Qo fun K E hK hE => ?_ | refine FunW.ret c2 ?_ | refine FunW.ret (FunW.call c1) ?_))); simp -implicitDefEqProofs only [Qd, Qb, Qg, OpW, QR, aop, undef, AS.ev, Qc, QY, Qq, Qk, AV.Qk5, Qy, QM, QlX, QlY, QC, QA, QP, QlZ, ↓reduceIte, QlQ, QlR, Nat.reduceAdd, Nat.reduceLT, Nat.reduceEqDiff, QlP, Qmb, QK, QL, Xj, Q0, QJ, aBin, QO, Yg, hlen, happ, QlD, Ql7, QlF, QlS, QlW, QW, Q1, Xf, Ql9, Qma, Qmg, Qmf, ei23, ti53, zi53, t1, t5, t8, t9, t10, z1, z2, hg, hcl, hag, hc1, f1, f3, f5, QG]) | (with_reducible (first | refine Qi fun K hK => ?_ | refine Qm ?_ | refine Qv ?_ | refine Qf ?_ | refine Qw ?_)) | ((with_reducible refine hK _ ?_); clear hK) | (refine Qj rfl ?_; simp only [↓reduceIte, QlH]))
        refine XD.mk (m' := l.length - (k + 1)) (by omega) ?_
        rw [hI]
        refine ⟨k + 1, cur ++ tx (l[k]), rfl, hlt, ?_, t1, t5, t8, t9, ?_, _, rfl⟩
        · rw [decide_eq_false (Nat.succ_ne_zero k), ByteArray.append_assoc]; exact he
        · simp only [upd, ↓reduceIte]
          rw [Xe (by omega)]
      · rw [decide_eq_false hk0, if_neg (by decide), Qt] at hsz
        rw [decide_eq_false hk0, if_neg (by decide)] at he
        have z2 : (k : Int) > 0 := by omega
        have c0 := sstr (h := h ++ [AB.dead, AB.dead] ++ (L ++ [AB.cells 53 3 [f l[k]]])) (glen _).1 (glen _).2 (by omega) (decide (0 < k)) cur YP (by omega)
        rw [gapp, gapp] at c0
        have c2 := ih l[k] (List.getElem_mem hlt) (HS (h ++ [AB.dead, AB.dead]) h.length (h.length + 1) true (cur ++ YP) ++ (L ++ [AB.cells 53 3 [f l[k]]])) (hG' _ _ _)
        have c1 := sstr (h := h ++ [AB.dead, AB.dead] ++ (L ++ [AB.cells 53 3 [f l[k]]])) (glen _).1 (glen _).2 (by omega) true (cur ++ YP) (tx (l[k])) (by rw [Qt]; omega)
        rw [gapp, gapp] at c1
        repeat (first | ((first | (with_reducible (first | refine Qa fun K E hK hE => ?_ | refine Qo fun K E hK hE => ?_ | refine FunW.ret c2 ?_ | refine FunW.ret (FunW.call c1) ?_ | refine FunW.ret (FunW.call c0) ?_))); simp -implicitDefEqProofs only [Qd, Qb, Qg, OpW, QR, aop, undef, AS.ev, Qc, QY, Qq, QF, Qk, AV.Qk5, Qy, QM, QlX, QlY, QC, QA, QP, QlZ, ↓reduceIte, QlQ, QlR, Nat.reduceAdd, Nat.reduceLT, Nat.reduceEqDiff, QlP, Qmb, QK, QL, Xj, Q0, QJ, aBin, QO, Yg, hlen, happ, QlD, Ql7, QlF, QlS, QlW, QW, Q1, Xf, Ql9, Qmg, Qmf, ei23, ti53, zi53, t1, t5, t8, t9, t10, z1, z2, hg, hcl, hag, hc1, f1, f3, f5, QG]) | (with_reducible (first | refine Qi fun K hK => ?_ | refine Qm ?_ | refine Qv ?_ | refine Qf ?_ | refine Qw ?_)) | ((with_reducible refine hK _ ?_); clear hK) | (refine Qj rfl ?_; simp only [↓reduceIte]))
        refine XD.mk (m' := l.length - (k + 1)) (by omega) ?_
        rw [hI]
        refine ⟨k + 1, (cur ++ YP) ++ tx (l[k]), rfl, hlt, ?_, t1, t5, t8, t9, ?_, _, rfl⟩
        · rw [decide_eq_false (Nat.succ_ne_zero k)]; simp only [ByteArray.append_assoc] at he ⊢; exact he
        · simp only [upd, ↓reduceIte]
          rw [Xe (by omega)]
    · have hkn : k = l.length := by omega
      subst hkn
      have z1 : ¬ ((l.length : Nat) : Int) < l.length := by omega
      rw [List.drop_length, List.map_nil, XV, ByteArray.append_empty] at he
      rw [decide_eq_true hl]
      rw [← he] at h0 hs
      have c := Qcu h L cur h0 hs
      repeat (first | ((first | (with_reducible (first | refine Qa fun K E hK hE => ?_ | refine FunW.ret (FunW.call c) ?_))); simp -implicitDefEqProofs only [Qd, Qb, Qg, OpW, QR, aop, AS.ev, Qc, Qk, ↓reduceIte, Nat.reduceLT, Nat.reduceEqDiff, aBin, QlF, QlS, QlW, Ql5, Ql4, QW, Qma, t5, t9, t10, z1]) | (with_reducible (first | refine Qi fun K hK => ?_ | refine Qn ?_ | refine Q2 ?_ | refine Qf ?_ | refine QU ?_ | refine QV ?_)) | ((with_reducible refine hK _ ?_); clear hK) | (clear hK; (with_reducible refine hK _ ?_); clear hK) | (refine Qj rfl ?_; simp only [↓reduceIte, QlH]))
      simp only [QN, Qp, Qu, upd, ↓reduceIte, QlJ, QlN]; first | refine Qe (htake _ _) (.keep (.v _)) ⟨by rw [he], rfl⟩ | refine Qe List.take_length (.keep (.v _)) ⟨by rw [he], rfl⟩
  · rw [hI]
    refine ⟨0, .empty, rfl, by omega, by rw [ByteArray.empty_append]; rfl, rfl, rfl, rfl, rfl, rfl, [], ?_⟩
    rw [Qi0]
    simp [bw]; rfl
end
section
variable {X : Type} (f : X → AV) (tx : X → ByteArray) (fv : AV)
theorem QgR (h : AH) : Yd Tryz.prog 56 [.sl 2 [] none, fv] h fun o h' => o = .ret (.v (.string .empty)) ∧ h' = h := by
  have c := QaB (ty := 74) (i := h.length) (h ++ [AB.dead]) (by simp)
  have e : hs (h ++ [AB.dead]) h.length (bw00 74) = h ++ [bw00 74] := by simp [hs]
  rw [e, bw00] at c
  refine Qh Tryz.func56 rfl Tryz.call56 Tryz.ntmps56 (congrArg Array.toList Tryz.results56) (by simp) ?_
  iterate 8 (try (first | (((with_reducible refine Qa fun K E hK hE => ?_)); simp -implicitDefEqProofs only [Qd, Qb, Qg, OpW, aop, undef, AS.ev, Qc, Qq, QF, Qk, QD, QlK, AV.Qk5, Qy, QlX, QlY, QP, Xc, QlZ, ↓reduceIte, QlQ, QlR, Nat.reduceAdd, Nat.reduceLT, Nat.reduceEqDiff, QlP, aLen, QlF, goInt, Qmp, un33, zi74]) | (with_reducible (first | refine Qi fun K hK => ?_ | refine Qm ?_)) | ((with_reducible refine hK _ ?_); clear hK)))
  obtain ⟨I, hI⟩ : ∃ I : Nat → AS → Prop, I = fun m' s => m' = 0 ∧ s.tm 1 = fv ∧ s.tm 5 = .ptr h.length 0 0 ∧ s.tm 8 = .sl 2 [] none ∧ s.tm 9 = .i 0 ∧ s.tm 10 = .i 0 ∧ s.h = h ++ [.cells 74 2 [.agg [.v (.pointer none), .v (.slice none 0 0)]]] := ⟨_, rfl⟩; refine Q9 I ?_ (m := 0) ?_
  · intro m' s hs; rw [hI] at hs; obtain ⟨tm, hp⟩ := s; dsimp only at hs; obtain ⟨rfl, t1, t5, t8, t9, t10, rfl⟩ := hs
    have z : ¬ ((0 : Int) < 0) := by decide
    repeat (first | ((first | (with_reducible (first | refine Qa fun K E hK hE => ?_ | refine FunW.ret (FunW.call c) ?_))); simp -implicitDefEqProofs only [Qd, Qb, Qg, OpW, QR, aop, AS.ev, Qc, Qk, ↓reduceIte, Nat.reduceLT, Nat.reduceEqDiff, aBin, QlF, QlS, QlW, QW, Qma, t5, t9, t10, z]) | (with_reducible (first | refine Qi fun K hK => ?_ | refine Qn ?_ | refine Q2 ?_ | refine Qf ?_ | refine QU ?_ | refine QV ?_)) | ((with_reducible refine hK _ ?_); clear hK) | (clear hK; (with_reducible refine hK _ ?_); clear hK) | (refine Qj rfl ?_; simp only [↓reduceIte, QlH]))
    simp only [QN, Qp, Qu, upd, ↓reduceIte, QlJ, QlN]; first | refine Qe (htake _ _) (.keep (.v _)) ⟨rfl, rfl⟩ | refine Qe List.take_length (.keep (.v _)) ⟨rfl, rfl⟩
  · rw [hI]
    exact ⟨rfl, rfl, rfl, rfl, rfl, rfl, rfl⟩
theorem QfM (hfc : ∀ x, (f x).isAgg = true ∧ (f x).cells.length = 2 ∧ (f x).cells.all AV.cell1 = true) (l : List X) (hl : 0 < l.length) (hl2 : l.length ≤ 1000000) (h : AH) (hG : XO h)
    (ih : ∀ x ∈ l, ∀ h : AH, XO h → FunW Tryz.prog fv [f x] h fun o h' => o = .ret (.v (.string (tx x))) ∧ h' = h)
    (h0 : 0 < (XV true (l.map tx)).size) (hs : (XV true (l.map tx)).size ≤ 140737488355328) :
    Yd Tryz.prog 56 [.sl 2 (vs f l) none, fv] h fun o h' => o = .ret (.v (.string (XV true (l.map tx)))) ∧ h' = h := by
  have hi : h.length < (h ++ [AB.dead, AB.dead]).length := by simp
  have hj : h.length + 1 < (h ++ [AB.dead, AB.dead]).length := by simp
  have hle : (h ++ [AB.dead, AB.dead]).length = h.length + 2 := by simp
  have f1 := fun u tx => (QhQ (h ++ [AB.dead, AB.dead]) h.length (h.length + 1) u tx).trans hle
  have f3 : ∀ u tx L k, (HS (h ++ [AB.dead, AB.dead]) h.length (h.length + 1) u tx ++ L)[h.length + 2 + k]? = L[k]? := fun u tx L k => by rw [← hle]; exact Qhz _ _ _ u tx L k
  have f2 : ∀ u tx L, (HS (h ++ [AB.dead, AB.dead]) h.length (h.length + 1) u tx ++ L)[h.length + 2]? = L[0]? := fun u tx L => f3 u tx L 0
  have f5 : ∀ u tx z L k, (HS (h ++ [AB.dead, AB.dead]) h.length (h.length + 1) u tx ++ L).set (h.length + 2 + k) z = HS (h ++ [AB.dead, AB.dead]) h.length (h.length + 1) u tx ++ L.set k z := fun u tx z L k => by rw [← hle]; exact QeY _ _ _ u tx z L k
  have f4 : ∀ u tx z L, (HS (h ++ [AB.dead, AB.dead]) h.length (h.length + 1) u tx ++ L).set (h.length + 2) z = HS (h ++ [AB.dead, AB.dead]) h.length (h.length + 1) u tx ++ L.set 0 z := fun u tx z L => f5 u tx z L 0
  have f6 := fun u tx L => Qe6 (h := h ++ [AB.dead, AB.dead]) (i := h.length) (j := h.length + 1) hi (by omega) u tx L
  have gapp := fun u tx L => Qhs (h := h ++ [AB.dead, AB.dead]) (i := h.length) (j := h.length + 1) hi hj u tx L
  refine Qh Tryz.func56 rfl Tryz.call56 Tryz.ntmps56 (congrArg Array.toList Tryz.results56) (by simp) ?_
  iterate 8 (try (first | (((with_reducible refine Qa fun K E hK hE => ?_)); simp -implicitDefEqProofs only [Qd, Qb, Qg, OpW, aop, undef, AS.ev, Qc, Qq, QF, Qk, QD, QlK, AV.Qk5, Qy, QlX, QlY, QP, Xc, QlZ, ↓reduceIte, QlQ, QlR, Nat.reduceAdd, Nat.reduceLT, Nat.reduceEqDiff, QlP, aLen, QlF, goInt, un33, zi74, QG]) | (with_reducible (first | refine Qi fun K hK => ?_ | refine Qm ?_)) | ((with_reducible refine hK _ ?_); clear hK)))
  refine ZS h.length 74 5 (.pointer none) (by simp) ?_
  obtain ⟨I, hI⟩ : ∃ I : Nat → AS → Prop, I = fun m' s => ∃ (k : Nat) (cur : ByteArray), m' = l.length - k ∧ k ≤ l.length ∧ cur ++ XV (decide (k = 0)) ((l.drop k).map tx) = XV true (l.map tx) ∧ s.tm 1 = fv ∧ s.tm 5 = .ptr h.length 0 0 ∧ s.tm 8 = .sl 2 (vs f l) none ∧ s.tm 9 = .i l.length ∧ s.tm 10 = .i k ∧ (∃ L, s.h = HS (h ++ [AB.dead, AB.dead]) h.length (h.length + 1) (decide (0 < k)) cur ++ L) := ⟨_, rfl⟩; refine Q9 I ?_ (m := l.length) ?_
  · intro m' s hs; rw [hI] at hs; obtain ⟨tm, hp⟩ := s; dsimp only at hs; obtain ⟨k, cur, rfl, hk, he, t1, t5, t8, t9, t10, L, rfl⟩ := hs
    by_cases hlt : k < l.length
    · have hg := YN f hlt
      have z1 : (k : Int) < l.length := by omega
      obtain ⟨hag, hcl, hc1⟩ := hfc l[k]
      have hsz : cur.size + (XV (decide (k = 0)) ((l.drop k).map tx)).size = (XV true (l.map tx)).size := by rw [← Qt, he]
      have hd : (l.drop k).map tx = tx (l[k]) :: (l.drop (k + 1)).map tx := by rw [List.drop_eq_getElem_cons hlt]; rfl
      have hcm : YP.size = 2 := rfl
      rw [hd, XV, Qt] at hsz
      rw [hd, XV] at he
      have glen : ∀ L : AH, h.length < (h ++ [AB.dead, AB.dead] ++ L).length ∧ h.length + 1 < (h ++ [AB.dead, AB.dead] ++ L).length := fun L => by rw [List.length_append]; omega
      have hG' := fun u tx L => HasG.app (QfF hG [AB.dead, AB.dead] rfl u tx) L
      by_cases hk0 : k = 0
      · rw [decide_eq_true hk0, if_pos rfl] at hsz he
        have z2 : ¬ (k : Int) > 0 := by omega
        have c2 := ih l[k] (List.getElem_mem hlt) (HS (h ++ [AB.dead, AB.dead]) h.length (h.length + 1) (decide (0 < k)) cur ++ (L ++ [AB.cells 38 2 [f l[k]]])) (hG' _ _ _)
        have c1 := sstr (h := h ++ [AB.dead, AB.dead] ++ (L ++ [AB.cells 38 2 [f l[k]]])) (glen _).1 (glen _).2 (by omega) (decide (0 < k)) cur (tx (l[k])) (by omega)
        rw [gapp, gapp] at c1
        repeat (first | ((first | (with_reducible (first | refine Qa fun K E hK hE => ?_ | refine Qo fun K E hK hE => ?_ | refine FunW.ret c2 ?_ | refine FunW.ret (FunW.call c1) ?_))); simp -implicitDefEqProofs only [Qd, Qb, Qg, OpW, QR, aop, undef, AS.ev, Qc, QY, Qq, Qk, AV.Qk5, Qy, QM, QlX, QlY, QC, QA, QlZ, ↓reduceIte, QlQ, QlR, Nat.reduceAdd, Nat.reduceLT, Nat.reduceEqDiff, QlP, Qmb, QK, QL, Xj, Q0, QJ, aBin, QO, Yg, hlen, happ, QlD, Ql7, QlF, QlS, QlW, QW, Q1, Xf, Ql9, Qma, Qmg, Qmf, ei33, ti38, zi38, t1, t5, t8, t9, t10, z1, z2, hg, hcl, hag, hc1, f1, f3, f5, QG]) | (with_reducible (first | refine Qi fun K hK => ?_ | refine Qm ?_ | refine Qv ?_ | refine Qf ?_ | refine Qw ?_)) | ((with_reducible refine hK _ ?_); clear hK) | (refine Qj rfl ?_; simp only [↓reduceIte, QlH]))
        refine XD.mk (m' := l.length - (k + 1)) (by omega) ?_
        rw [hI]
        refine ⟨k + 1, cur ++ tx (l[k]), rfl, hlt, ?_, t1, t5, t8, t9, ?_, _, rfl⟩
        · rw [decide_eq_false (Nat.succ_ne_zero k), ByteArray.append_assoc]; exact he
        · simp only [upd, ↓reduceIte]
          rw [Xe (by omega)]
      · rw [decide_eq_false hk0, if_neg (by decide), Qt] at hsz
        rw [decide_eq_false hk0, if_neg (by decide)] at he
        have z2 : (k : Int) > 0 := by omega
        have c0 := sstr (h := h ++ [AB.dead, AB.dead] ++ (L ++ [AB.cells 38 2 [f l[k]]])) (glen _).1 (glen _).2 (by omega) (decide (0 < k)) cur YP (by omega)
        rw [gapp, gapp] at c0
        have c2 := ih l[k] (List.getElem_mem hlt) (HS (h ++ [AB.dead, AB.dead]) h.length (h.length + 1) true (cur ++ YP) ++ (L ++ [AB.cells 38 2 [f l[k]]])) (hG' _ _ _)
        have c1 := sstr (h := h ++ [AB.dead, AB.dead] ++ (L ++ [AB.cells 38 2 [f l[k]]])) (glen _).1 (glen _).2 (by omega) true (cur ++ YP) (tx (l[k])) (by rw [Qt]; omega)
        rw [gapp, gapp] at c1
        repeat (first | ((first | (with_reducible (first | refine Qa fun K E hK hE => ?_ | refine Qo fun K E hK hE => ?_ | refine FunW.ret c2 ?_ | refine FunW.ret (FunW.call c1) ?_ | refine FunW.ret (FunW.call c0) ?_))); simp -implicitDefEqProofs only [Qd, Qb, Qg, OpW, QR, aop, undef, AS.ev, Qc, QY, Qq, QF, Qk, AV.Qk5, Qy, QM, QlX, QlY, QC, QA, QlZ, ↓reduceIte, QlQ, QlR, Nat.reduceAdd, Nat.reduceLT, Nat.reduceEqDiff, QlP, Qmb, QK, QL, Xj, Q0, QJ, aBin, QO, Yg, hlen, happ, QlD, Ql7, QlF, QlS, QlW, QW, Q1, Xf, Ql9, Qmg, Qmf, ei33, ti38, zi38, t1, t5, t8, t9, t10, z1, z2, hg, hcl, hag, hc1, f1, f3, f5, QG]) | (with_reducible (first | refine Qi fun K hK => ?_ | refine Qm ?_ | refine Qv ?_ | refine Qf ?_ | refine Qw ?_)) | ((with_reducible refine hK _ ?_); clear hK) | (refine Qj rfl ?_; simp only [↓reduceIte]))
        refine XD.mk (m' := l.length - (k + 1)) (by omega) ?_
        rw [hI]
        refine ⟨k + 1, (cur ++ YP) ++ tx (l[k]), rfl, hlt, ?_, t1, t5, t8, t9, ?_, _, rfl⟩
        · rw [decide_eq_false (Nat.succ_ne_zero k)]; simp only [ByteArray.append_assoc] at he ⊢; exact he
        · simp only [upd, ↓reduceIte]
          rw [Xe (by omega)]
    · have hkn : k = l.length := by omega
      subst hkn
      have z1 : ¬ ((l.length : Nat) : Int) < l.length := by omega
      rw [List.drop_length, List.map_nil, XV, ByteArray.append_empty] at he
      rw [decide_eq_true hl]
      rw [← he] at h0 hs
      have c := Qcu h L cur h0 hs
      repeat (first | ((first | (with_reducible (first | refine Qa fun K E hK hE => ?_ | refine FunW.ret (FunW.call c) ?_))); simp -implicitDefEqProofs only [Qd, Qb, Qg, OpW, QR, aop, AS.ev, Qc, Qk, ↓reduceIte, Nat.reduceLT, Nat.reduceEqDiff, aBin, QlF, QlS, QlW, Ql5, Ql4, QW, Qma, t5, t9, t10, z1]) | (with_reducible (first | refine Qi fun K hK => ?_ | refine Qn ?_ | refine Q2 ?_ | refine Qf ?_ | refine QU ?_ | refine QV ?_)) | ((with_reducible refine hK _ ?_); clear hK) | (clear hK; (with_reducible refine hK _ ?_); clear hK) | (refine Qj rfl ?_; simp only [↓reduceIte, QlH]))
      simp only [QN, Qp, Qu, upd, ↓reduceIte, QlJ, QlN]; first | refine Qe (htake _ _) (.keep (.v _)) ⟨by rw [he], rfl⟩ | refine Qe List.take_length (.keep (.v _)) ⟨by rw [he], rfl⟩
  · rw [hI]
    refine ⟨0, .empty, rfl, by omega, by rw [ByteArray.empty_append]; rfl, rfl, rfl, rfl, rfl, rfl, [], ?_⟩
    rw [Qi0]
    simp [bw]; rfl
end
end Go.Proofs.YtenheconhibonaaGreatDoor.Ab
set_option maxRecDepth 4000
namespace Go.Proofs.YtenheconhibonaaGreatDoor.Ab
open Go.Proofs
section
variable {X : Type} (f : X → AV) (p : X → Bool) (fv : AV)
theorem Qgn (hfc : ∀ x, (f x).isAgg = true ∧ (f x).cells.length = 2 ∧ (f x).cells.all AV.cell1 = true) (l : List X) (hl2 : l.length ≤ 1000000) (h : AH)
    (ih : ∀ x ∈ l, ∀ h : AH, FunW Tryz.prog fv [f x] h fun o h' => o = .ret (.b (p x)) ∧ h' = h) :
    Yd Tryz.prog 79 [.sl 2 (vs f l) none, fv] h fun o h' => o = .ret (.b (l.all p)) ∧ h' = h := by
  refine Qh Tryz.func79 rfl Tryz.call79 Tryz.ntmps79 (congrArg Array.toList Tryz.results79) (by simp) ?_
  repeat (first | (((with_reducible refine Qa fun K E hK hE => ?_)); simp -implicitDefEqProofs only [Qd, Qb, Qg, OpW, aop, undef, AS.ev, Qc, Qq, Qr, Qk, QD, QlK, ↓reduceIte, Nat.reduceLT, Nat.reduceEqDiff, aLen, QlF, goInt, un22, QG]) | (with_reducible (first | refine Qi fun K hK => ?_ | refine Qm ?_)) | ((with_reducible refine hK _ ?_); clear hK))
  obtain ⟨I, hI⟩ : ∃ I : Nat → AS → Prop, I = fun m' s => ∃ (k : Nat), m' = l.length - k ∧ k ≤ l.length ∧ l.all p = (l.drop k).all p ∧ s.tm 1 = fv ∧ s.tm 7 = .sl 2 (vs f l) none ∧ s.tm 8 = .i l.length ∧ s.tm 9 = .i k ∧ (∃ L, s.h = h ++ L) := ⟨_, rfl⟩; refine Q9 I ?_ (m := l.length) ?_
  · intro m' s hs; rw [hI] at hs; obtain ⟨tm, hp⟩ := s; dsimp only at hs; obtain ⟨k, rfl, hk, he, t1, t7, t8, t9, L, rfl⟩ := hs
    by_cases hlt : k < l.length
    · have hg := YN f hlt
      have z1 : (k : Int) < l.length := by omega
      obtain ⟨hag, hcl, hc1⟩ := hfc l[k]
      have c2 := ih l[k] (List.getElem_mem hlt) (h ++ (L ++ [AB.cells 66 2 [f l[k]]]))
      rw [List.drop_eq_getElem_cons hlt, List.all_cons] at he
      cases hp1 : p l[k] with
      | true =>
        rw [hp1] at c2 he
        repeat (first | ((first | (with_reducible (first | refine Qa fun K E hK hE => ?_ | refine Qo fun K E hK hE => ?_ | refine FunW.ret c2 ?_))); simp -implicitDefEqProofs only [Qd, Qb, Qg, OpW, QR, aop, undef, AS.ev, Qc, QY, Qq, Qk, AV.Qk5, Qy, QM, QlX, QlY, QA, QP, QlZ, Ql0, ↓reduceIte, QlQ, QlR, Nat.reduceAdd, Nat.reduceLT, Nat.reduceEqDiff, QlP, Qmb, QK, QL, Xj, Q0, QJ, aBin, QO, hget, Yg, hset, hlen, happ, QlD, Ql7, QlF, QlS, QlW, QW, Xf, Xb, Ql9, Qmg, Qmf, ei22, ti66, zi66, t1, t7, t8, t9, z1, hg, hcl, hag, hc1, QG]) | (with_reducible (first | refine Qi fun K hK => ?_ | refine Qm ?_ | refine Qv ?_ | refine Qf ?_ | refine Qw ?_)) | ((with_reducible refine hK _ ?_); clear hK) | (refine Qj rfl ?_; simp only [↓reduceIte, QlH]))
        refine XD.mk (m' := l.length - (k + 1)) (by omega) ?_
        rw [hI]
        refine ⟨k + 1, rfl, hlt, by rw [he, Bool.true_and], t1, t7, t8, ?_, _, rfl⟩
        simp only [upd, ↓reduceIte]
        rw [Xe (by omega)]
      | false =>
        rw [hp1] at c2 he
        repeat (first | ((first | (with_reducible (first | refine Qa fun K E hK hE => ?_ | refine FunW.ret c2 ?_))); simp -implicitDefEqProofs only [Qd, Qb, Qg, OpW, QR, aop, undef, AS.ev, Qc, QY, Qr, Qk, AV.Qk5, Qy, QM, QlX, QlY, QA, QP, QlZ, Ql1, ↓reduceIte, QlQ, QlR, Nat.reduceAdd, Nat.reduceLT, Nat.reduceEqDiff, QlP, Qmb, QK, QL, Xj, Q0, QJ, aBin, QO, hget, Yg, hset, hlen, happ, QlD, Ql7, QlF, QlS, QlW, QW, Xb, Ql9, Qmg, Qmf, ei22, ti66, zi66, t1, t7, t8, t9, z1, hg, hcl, hag, hc1, QG]) | (with_reducible (first | refine Qi fun K hK => ?_ | refine Qm ?_ | refine Qn ?_ | refine Qv ?_ | refine Qf ?_ | refine QB ?_ | refine QH ?_)) | ((with_reducible refine hK _ ?_); clear hK) | (refine Qj rfl ?_; simp only [↓reduceIte]))
        simp only [QN, Qp, Qu, upd, ↓reduceIte, QlJ, QlN]; first | refine Qe (htake _ _) (.keep (.v _)) ⟨by rw [he, Bool.false_and], rfl⟩ | refine Qe List.take_length (.keep (.v _)) ⟨by rw [he, Bool.false_and], rfl⟩
    · have hkn : k = l.length := by omega
      subst hkn
      have z1 : ¬ ((l.length : Nat) : Int) < l.length := by omega
      rw [List.drop_length] at he
      repeat (first | (((with_reducible refine Qa fun K E hK hE => ?_)); simp -implicitDefEqProofs only [Qd, Qb, Qg, OpW, aop, AS.ev, Qc, Qr, Nat.reduceLT, aBin, QlF, QW, Qma, t8, t9, z1]) | (with_reducible (first | refine Qi fun K hK => ?_ | refine Qn ?_ | refine Q2 ?_ | refine Qf ?_ | refine QU ?_ | refine QV ?_)) | ((with_reducible refine hK _ ?_); clear hK) | (clear hK; (with_reducible refine hK _ ?_); clear hK) | (refine Qj rfl ?_; simp only [↓reduceIte, QlH]))
      simp only [QN, Qp, Qu, upd, ↓reduceIte, QlJ, QlN]; first | refine Qe (htake _ _) (.keep (.v _)) ⟨by rw [he]; rfl, rfl⟩ | refine Qe List.take_length (.keep (.v _)) ⟨by rw [he]; rfl, rfl⟩
  · rw [hI]
    exact ⟨0, rfl, by omega, rfl, rfl, rfl, rfl, rfl, [], (List.append_nil _).symm⟩
end
section
variable {X : Type} (f : X → AV) (p : X → Bool) (fv : AV)
theorem QdO (hfc : ∀ x, (f x).isAgg = true ∧ (f x).cells.length = 3 ∧ (f x).cells.all AV.cell1 = true) (l : List X) (hl2 : l.length ≤ 1000000) (h : AH)
    (ih : ∀ x ∈ l, ∀ h : AH, FunW Tryz.prog fv [f x] h fun o h' => o = .ret (.b (p x)) ∧ h' = h) :
    Yd Tryz.prog 60 [.sl 3 (vs f l) none, fv] h fun o h' => o = .ret (.b (l.all p)) ∧ h' = h := by
  refine Qh Tryz.func60 rfl Tryz.call60 Tryz.ntmps60 (congrArg Array.toList Tryz.results60) (by simp) ?_
  repeat (first | (((with_reducible refine Qa fun K E hK hE => ?_)); simp -implicitDefEqProofs only [Qd, Qb, Qg, OpW, aop, undef, AS.ev, Qc, Qq, Qr, Qk, QD, QlK, ↓reduceIte, Nat.reduceLT, Nat.reduceEqDiff, aLen, QlF, goInt, un23, QG]) | (with_reducible (first | refine Qi fun K hK => ?_ | refine Qm ?_)) | ((with_reducible refine hK _ ?_); clear hK))
  obtain ⟨I, hI⟩ : ∃ I : Nat → AS → Prop, I = fun m' s => ∃ (k : Nat), m' = l.length - k ∧ k ≤ l.length ∧ l.all p = (l.drop k).all p ∧ s.tm 1 = fv ∧ s.tm 7 = .sl 3 (vs f l) none ∧ s.tm 8 = .i l.length ∧ s.tm 9 = .i k ∧ (∃ L, s.h = h ++ L) := ⟨_, rfl⟩; refine Q9 I ?_ (m := l.length) ?_
  · intro m' s hs; rw [hI] at hs; obtain ⟨tm, hp⟩ := s; dsimp only at hs; obtain ⟨k, rfl, hk, he, t1, t7, t8, t9, L, rfl⟩ := hs
    by_cases hlt : k < l.length
    · have hg := YN f hlt
      have z1 : (k : Int) < l.length := by omega
      obtain ⟨hag, hcl, hc1⟩ := hfc l[k]
      have c2 := ih l[k] (List.getElem_mem hlt) (h ++ (L ++ [AB.cells 53 3 [f l[k]]]))
      rw [List.drop_eq_getElem_cons hlt, List.all_cons] at he
      cases hp1 : p l[k] with
      | true =>
        rw [hp1] at c2 he
        repeat (first | ((first | (with_reducible (first | refine Qa fun K E hK hE => ?_ | refine Qo fun K E hK hE => ?_ | refine FunW.ret c2 ?_))); simp -implicitDefEqProofs only [Qd, Qb, Qg, OpW, QR, aop, undef, AS.ev, Qc, QY, Qq, Qk, AV.Qk5, Qy, QM, QlX, QlY, QC, QA, QP, QlZ, Ql0, ↓reduceIte, QlQ, QlR, Nat.reduceAdd, Nat.reduceLT, Nat.reduceEqDiff, QlP, Qmb, QK, QL, Xj, Q0, QJ, aBin, QO, hget, Yg, hset, hlen, happ, QlD, Ql7, QlF, QlS, QlW, QW, Xf, Xb, Ql9, Qmg, Qmf, ei23, ti53, zi53, t1, t7, t8, t9, z1, hg, hcl, hag, hc1, QG]) | (with_reducible (first | refine Qi fun K hK => ?_ | refine Qm ?_ | refine Qv ?_ | refine Qf ?_ | refine Qw ?_)) | ((with_reducible refine hK _ ?_); clear hK) | (refine Qj rfl ?_; simp only [↓reduceIte, QlH]))
        refine XD.mk (m' := l.length - (k + 1)) (by omega) ?_
        rw [hI]
        refine ⟨k + 1, rfl, hlt, by rw [he, Bool.true_and], t1, t7, t8, ?_, _, rfl⟩
        simp only [upd, ↓reduceIte]
        rw [Xe (by omega)]
      | false =>
        rw [hp1] at c2 he
        repeat (first | ((first | (with_reducible (first | refine Qa fun K E hK hE => ?_ | refine FunW.ret c2 ?_))); simp -implicitDefEqProofs only [Qd, Qb, Qg, OpW, QR, aop, undef, AS.ev, Qc, QY, Qr, Qk, AV.Qk5, Qy, QM, QlX, QlY, QC, QA, QP, QlZ, Ql1, ↓reduceIte, QlQ, QlR, Nat.reduceAdd, Nat.reduceLT, Nat.reduceEqDiff, QlP, Qmb, QK, QL, Xj, Q0, QJ, aBin, QO, hget, Yg, hset, hlen, happ, QlD, Ql7, QlF, QlS, QlW, QW, Xb, Ql9, Qmg, Qmf, ei23, ti53, zi53, t1, t7, t8, t9, z1, hg, hcl, hag, hc1, QG]) | (with_reducible (first | refine Qi fun K hK => ?_ | refine Qm ?_ | refine Qn ?_ | refine Qv ?_ | refine Qf ?_ | refine QB ?_ | refine QH ?_)) | ((with_reducible refine hK _ ?_); clear hK) | (refine Qj rfl ?_; simp only [↓reduceIte]))
        simp only [QN, Qp, Qu, upd, ↓reduceIte, QlJ, QlN]; first | refine Qe (htake _ _) (.keep (.v _)) ⟨by rw [he, Bool.false_and], rfl⟩ | refine Qe List.take_length (.keep (.v _)) ⟨by rw [he, Bool.false_and], rfl⟩
    · have hkn : k = l.length := by omega
      subst hkn
      have z1 : ¬ ((l.length : Nat) : Int) < l.length := by omega
      rw [List.drop_length] at he
      repeat (first | (((with_reducible refine Qa fun K E hK hE => ?_)); simp -implicitDefEqProofs only [Qd, Qb, Qg, OpW, aop, AS.ev, Qc, Qr, Nat.reduceLT, aBin, QlF, QW, Qma, t8, t9, z1]) | (with_reducible (first | refine Qi fun K hK => ?_ | refine Qn ?_ | refine Q2 ?_ | refine Qf ?_ | refine QU ?_ | refine QV ?_)) | ((with_reducible refine hK _ ?_); clear hK) | (clear hK; (with_reducible refine hK _ ?_); clear hK) | (refine Qj rfl ?_; simp only [↓reduceIte, QlH]))
      simp only [QN, Qp, Qu, upd, ↓reduceIte, QlJ, QlN]; first | refine Qe (htake _ _) (.keep (.v _)) ⟨by rw [he]; rfl, rfl⟩ | refine Qe List.take_length (.keep (.v _)) ⟨by rw [he]; rfl, rfl⟩
  · rw [hI]
    exact ⟨0, rfl, by omega, rfl, rfl, rfl, rfl, rfl, [], (List.append_nil _).symm⟩
end
section
variable {X : Type} (f : X → AV) (p : X → Bool) (fv : AV)
theorem Qja (hfc : ∀ x, (f x).isAgg = true ∧ (f x).cells.length = 2 ∧ (f x).cells.all AV.cell1 = true) (l : List X) (hl2 : l.length ≤ 1000000) (h : AH)
    (ih : ∀ x ∈ l, ∀ h : AH, FunW Tryz.prog fv [f x] h fun o h' => o = .ret (.b (p x)) ∧ h' = h) :
    Yd Tryz.prog 53 [.sl 2 (vs f l) none, fv] h fun o h' => o = .ret (.b (l.all p)) ∧ h' = h := by
  refine Qh Tryz.func53 rfl Tryz.call53 Tryz.ntmps53 (congrArg Array.toList Tryz.results53) (by simp) ?_
  repeat (first | (((with_reducible refine Qa fun K E hK hE => ?_)); simp -implicitDefEqProofs only [Qd, Qb, Qg, OpW, aop, undef, AS.ev, Qc, Qq, Qr, Qk, QD, QlK, ↓reduceIte, Nat.reduceLT, Nat.reduceEqDiff, aLen, QlF, goInt, un33, QG]) | (with_reducible (first | refine Qi fun K hK => ?_ | refine Qm ?_)) | ((with_reducible refine hK _ ?_); clear hK))
  obtain ⟨I, hI⟩ : ∃ I : Nat → AS → Prop, I = fun m' s => ∃ (k : Nat), m' = l.length - k ∧ k ≤ l.length ∧ l.all p = (l.drop k).all p ∧ s.tm 1 = fv ∧ s.tm 7 = .sl 2 (vs f l) none ∧ s.tm 8 = .i l.length ∧ s.tm 9 = .i k ∧ (∃ L, s.h = h ++ L) := ⟨_, rfl⟩; refine Q9 I ?_ (m := l.length) ?_
  · intro m' s hs; rw [hI] at hs; obtain ⟨tm, hp⟩ := s; dsimp only at hs; obtain ⟨k, rfl, hk, he, t1, t7, t8, t9, L, rfl⟩ := hs
    by_cases hlt : k < l.length
    · have hg := YN f hlt
      have z1 : (k : Int) < l.length := by omega
      obtain ⟨hag, hcl, hc1⟩ := hfc l[k]
      have c2 := ih l[k] (List.getElem_mem hlt) (h ++ (L ++ [AB.cells 38 2 [f l[k]]]))
      rw [List.drop_eq_getElem_cons hlt, List.all_cons] at he
      cases hp1 : p l[k] with
      | true =>
        rw [hp1] at c2 he
        repeat (first | ((first | (with_reducible (first | refine Qa fun K E hK hE => ?_ | refine Qo fun K E hK hE => ?_ | refine FunW.ret c2 ?_))); simp -implicitDefEqProofs only [Qd, Qb, Qg, OpW, QR, aop, undef, AS.ev, Qc, QY, Qq, Qk, AV.Qk5, Qy, QM, QlX, QlY, QC, QA, QlZ, Ql0, ↓reduceIte, QlQ, QlR, Nat.reduceAdd, Nat.reduceLT, Nat.reduceEqDiff, QlP, Qmb, QK, QL, Xj, Q0, QJ, aBin, QO, hget, Yg, hset, hlen, happ, QlD, Ql7, QlF, QlS, QlW, QW, Xf, Xb, Ql9, Qmg, Qmf, ei33, ti38, zi38, t1, t7, t8, t9, z1, hg, hcl, hag, hc1, QG]) | (with_reducible (first | refine Qi fun K hK => ?_ | refine Qm ?_ | refine Qv ?_ | refine Qf ?_ | refine Qw ?_)) | ((with_reducible refine hK _ ?_); clear hK) | (refine Qj rfl ?_; simp only [↓reduceIte, QlH]))
        refine XD.mk (m' := l.length - (k + 1)) (by omega) ?_
        rw [hI]
        refine ⟨k + 1, rfl, hlt, by rw [he, Bool.true_and], t1, t7, t8, ?_, _, rfl⟩
        simp only [upd, ↓reduceIte]
        rw [Xe (by omega)]
      | false =>
        rw [hp1] at c2 he
        repeat (first | ((first | (with_reducible (first | refine Qa fun K E hK hE => ?_ | refine FunW.ret c2 ?_))); simp -implicitDefEqProofs only [Qd, Qb, Qg, OpW, QR, aop, undef, AS.ev, Qc, QY, Qr, Qk, AV.Qk5, Qy, QM, QlX, QlY, QC, QA, QlZ, Ql1, ↓reduceIte, QlQ, QlR, Nat.reduceAdd, Nat.reduceLT, Nat.reduceEqDiff, QlP, Qmb, QK, QL, Xj, Q0, QJ, aBin, QO, hget, Yg, hset, hlen, happ, QlD, Ql7, QlF, QlS, QlW, QW, Xb, Ql9, Qmg, Qmf, ei33, ti38, zi38, t1, t7, t8, t9, z1, hg, hcl, hag, hc1, QG]) | (with_reducible (first | refine Qi fun K hK => ?_ | refine Qm ?_ | refine Qn ?_ | refine Qv ?_ | refine Qf ?_ | refine QB ?_ | refine QH ?_)) | ((with_reducible refine hK _ ?_); clear hK) | (refine Qj rfl ?_; simp only [↓reduceIte]))
        simp only [QN, Qp, Qu, upd, ↓reduceIte, QlJ, QlN]; first | refine Qe (htake _ _) (.keep (.v _)) ⟨by rw [he, Bool.false_and], rfl⟩ | refine Qe List.take_length (.keep (.v _)) ⟨by rw [he, Bool.false_and], rfl⟩
    · have hkn : k = l.length := by omega
      subst hkn
      have z1 : ¬ ((l.length : Nat) : Int) < l.length := by omega
      rw [List.drop_length] at he
      repeat (first | (((with_reducible refine Qa fun K E hK hE => ?_)); simp -implicitDefEqProofs only [Qd, Qb, Qg, OpW, aop, AS.ev, Qc, Qr, Nat.reduceLT, aBin, QlF, QW, Qma, t8, t9, z1]) | (with_reducible (first | refine Qi fun K hK => ?_ | refine Qn ?_ | refine Q2 ?_ | refine Qf ?_ | refine QU ?_ | refine QV ?_)) | ((with_reducible refine hK _ ?_); clear hK) | (clear hK; (with_reducible refine hK _ ?_); clear hK) | (refine Qj rfl ?_; simp only [↓reduceIte, QlH]))
      simp only [QN, Qp, Qu, upd, ↓reduceIte, QlJ, QlN]; first | refine Qe (htake _ _) (.keep (.v _)) ⟨by rw [he]; rfl, rfl⟩ | refine Qe List.take_length (.keep (.v _)) ⟨by rw [he]; rfl, rfl⟩
  · rw [hI]
    exact ⟨0, rfl, by omega, rfl, rfl, rfl, rfl, rfl, [], (List.append_nil _).symm⟩
end
theorem Qfw (g : G) : g.atom.isAgg = true ∧ g.atom.cells.length = 2 ∧ g.atom.cells.all AV.cell1 = true := ⟨rfl, rfl, rfl⟩
theorem QdG (g : G) : g.goal.isAgg = true ∧ g.goal.cells.length = 3 ∧ g.goal.cells.all AV.cell1 = true := ⟨rfl, rfl, rfl⟩
def ZV (s : ByteArray) : ByteArray := if 16384 < s.size then { data := #[] } else s
theorem Qbu (s : ByteArray) : Pure Tryz.prog 40 [.v (.string s)] (.v (.string (ZV s))) := by
  intro h
  have hsl := Z4 Tryz.prog 9 3 Qin s
  by_cases hz : 16384 < s.size
  · have z : (s.size : Int) > 16384 := by omega
    refine Qh Tryz.func40 rfl Tryz.call40 Tryz.ntmps40 (congrArg Array.toList Tryz.results40) (by simp) ?_
    repeat (first | (((with_reducible refine Qa fun K E hK hE => ?_)); simp -implicitDefEqProofs only [Qd, Qb, Qg, OpW, aop, undef, AS.ev, Qc, Qq, QF, Qk, QD, QlK, ↓reduceIte, Nat.reduceLT, Nat.reduceEqDiff, aBin, aLen, QlF, Q1, goInt, Ql9, hsl, z]) | (with_reducible (first | refine Qi fun K hK => ?_ | refine Qn ?_ | refine QB ?_)) | ((with_reducible refine hK _ ?_); clear hK) | (refine Qj rfl ?_; simp only [↓reduceIte]))
    simp only [QN, Qp, Qu, upd, ↓reduceIte, QlJ, QlN]; first | refine Qe (htake _ _) (.keep (.v _)) ⟨by rw [ZV, if_pos hz], rfl⟩ | refine Qe List.take_length (.keep (.v _)) ⟨by rw [ZV, if_pos hz], rfl⟩
  · have z : ¬ (s.size : Int) > 16384 := by omega
    refine Qh Tryz.func40 rfl Tryz.call40 Tryz.ntmps40 (congrArg Array.toList Tryz.results40) (by simp) ?_
    repeat (first | (((with_reducible refine Qa fun K E hK hE => ?_)); simp -implicitDefEqProofs only [Qd, Qb, Qg, OpW, aop, undef, AS.ev, Qc, Qq, QF, Qk, QD, QlK, ↓reduceIte, Nat.reduceLT, Nat.reduceEqDiff, aBin, aLen, QlF, Q1, goInt, Qma, hsl, z]) | (with_reducible (first | refine Qi fun K hK => ?_ | refine Qn ?_ | refine Qv ?_ | refine Qf ?_)) | ((with_reducible refine hK _ ?_); clear hK) | (refine Qj rfl ?_; simp only [↓reduceIte, QlH]))
    simp only [QN, Qp, Qu, upd, ↓reduceIte, QlJ, QlN]; first | refine Qe (htake _ _) (.keep (.v _)) ⟨by rw [ZV, if_neg hz], rfl⟩ | refine Qe List.take_length (.keep (.v _)) ⟨by rw [ZV, if_neg hz], rfl⟩
def catB : List ByteArray → ByteArray
  | [] => .empty
  | x :: l => x ++ catB l
def QfE (l : List ByteArray) : List AV := vs (fun s => .v (.string s)) l
theorem QjS {h : AH} {i j : Nat} (hi : i < h.length) (hj : j < h.length) (hij : i ≠ j) (l : List ByteArray) (hl : 0 < l.length) (hl2 : l.length ≤ 1000000) (u : Bool) (tx : ByteArray) (hs : tx.size + (catB l).size ≤ 140737488355328) :
    Yd Tryz.prog 34 [.sl 1 (QfE l) none, .ptr i 0 0] (HS h i j u tx) fun o h' => o = .ret (.tup []) ∧ h' = HS h i j true (tx ++ catB l) := by
  have hlv : (QfE l).length = l.length := QG _ _
  refine Qh Tryz.func34 rfl Tryz.call34 Tryz.ntmps34 (congrArg Array.toList Tryz.results34) (by simp) ?_
  repeat (first | (((with_reducible refine Qa fun K E hK hE => ?_)); simp -implicitDefEqProofs only [Qd, Qb, Qg, OpW, aop, undef, AS.ev, Qc, Qq, Qk, QD, QlK, ↓reduceIte, Nat.reduceLT, aLen, QlF, goInt, un48, hlv]) | (with_reducible refine Qm ?_) | ((with_reducible refine hK _ ?_); clear hK))
  obtain ⟨I, hI⟩ : ∃ I : Nat → AS → Prop, I = fun m' s => ∃ (k : Nat) (cur : ByteArray), m' = l.length - k ∧ k ≤ l.length ∧ cur ++ catB (l.drop k) = tx ++ catB l ∧ s.tm 1 = .ptr i 0 0 ∧ s.tm 5 = .sl 1 (QfE l) none ∧ s.tm 6 = .i l.length ∧ s.tm 7 = .i k ∧ s.h = HS h i j (u || decide (0 < k)) cur := ⟨_, rfl⟩; refine Q9 I ?_ (m := l.length) ?_
  · intro m' s hs; rw [hI] at hs; obtain ⟨tm, hp⟩ := s; dsimp only at hs; obtain ⟨k, cur, rfl, hk, he, t1, t5, t6, t7, rfl⟩ := hs
    by_cases hlt : k < l.length
    · have hg : (QfE l)[k]? = some (.v (.string l[k])) := YN _ hlt
      have z1 : (k : Int) < l.length := by omega
      have hsz : cur.size + (catB (l.drop k)).size = tx.size + (catB l).size := by rw [← Qt, he, Qt]
      rw [List.drop_eq_getElem_cons hlt, catB] at he hsz
      rw [Qt] at hsz
      have c := sstr hi hj hij (u || decide (0 < k)) cur l[k] (by omega)
      repeat (first | ((first | (with_reducible (first | refine Qa fun K E hK hE => ?_ | refine Qo fun K E hK hE => ?_ | refine FunW.ret (FunW.call c) ?_))); simp -implicitDefEqProofs only [Qd, Qb, Qg, OpW, QR, aop, AS.ev, Qc, Qq, Qk, Q6, ↓reduceIte, Nat.reduceLT, Nat.reduceEqDiff, Qmb, QK, QL, QJ, aBin, QlD, QlF, QlS, QlW, QW, Xf, Ql9, Qmg, Qmf, ti9, ei48, t1, t5, t6, t7, z1, hg, hlv]) | (with_reducible (first | refine Qi fun K hK => ?_ | refine Qm ?_ | refine Qv ?_ | refine Qf ?_ | refine Qw ?_)) | ((with_reducible refine hK _ ?_); clear hK) | (refine Qj rfl ?_; simp only [↓reduceIte]))
      refine XD.mk (m' := l.length - (k + 1)) (by omega) ?_
      rw [hI]
      refine ⟨k + 1, cur ++ l[k], rfl, hlt, by rw [ByteArray.append_assoc]; exact he, t1, t5, t6, ?_, by rw [decide_eq_true (Nat.succ_pos k), Bool.or_true]⟩
      simp only [upd, ↓reduceIte]
      rw [Xe (by omega)]
    · have hkn : k = l.length := by omega
      subst hkn
      have z1 : ¬ ((l.length : Nat) : Int) < l.length := by omega
      rw [List.drop_length, catB, ByteArray.append_empty] at he
      rw [decide_eq_true hl, Bool.or_true]
      repeat (first | (((with_reducible refine Qa fun K E hK hE => ?_)); simp -implicitDefEqProofs only [Qd, Qb, Qg, OpW, aop, AS.ev, Qc, Nat.reduceLT, aBin, QlF, QW, Qma, t6, t7, z1]) | (with_reducible (first | refine Qi fun K hK => ?_ | refine Q2 ?_ | refine QU ?_ | refine QV ?_)) | ((with_reducible refine hK _ ?_); clear hK) | (refine Qj rfl ?_; simp only [↓reduceIte, QlH]))
      simp -implicitDefEqProofs only [QlF, QlJ, List.mapM_nil, Option.pure_def, QlF, QN, Qp, QlN]
      exact .inr ⟨rfl, by rw [he]⟩
  · rw [hI]
    exact ⟨0, tx, rfl, by omega, rfl, rfl, rfl, rfl, rfl, by rw [decide_eq_false (by omega), Bool.or_false]⟩
end Go.Proofs.YtenheconhibonaaGreatDoor.Ab
namespace Go.Proofs.YtenheconhibonaaGreatDoor.Ab
mutual
/-- the occurrences of variables -/
def T.vars : T → List Int
  | .mk k i _ l => if k = 1 then [i] else if k = 2 then X9 l else []
def X9 : List T → List Int
  | [] => []
  | t :: l => t.vars ++ X9 l
end
theorem Zw : ∀ l r : List T, X9 (l ++ r) = X9 l ++ X9 r
  | [], r => rfl
  | t :: l, r => by simp only [Ql5, X9, Zw l r, List.append_assoc]
def ins (s : List Int) (n : Int) : List Int := if n ∈ s then s else s ++ [n]
def ded : List Int → List Int → List Int
  | s, [] => s
  | s, n :: l => ded (ins s n) l
theorem Zv : ∀ s l r : List Int, ded s (l ++ r) = ded (ded s l) r
  | s, [], r => rfl
  | s, n :: l, r => by simp only [Ql5, ded, Zv]
theorem Qkq (s : List Int) (n : Int) : ∃ r, ins s n = s ++ r := by
  unfold ins
  split
  · exact ⟨[], by simp⟩
  · exact ⟨[n], rfl⟩
theorem QcA : ∀ s l : List Int, ∃ r, ded s l = s ++ r
  | s, [] => ⟨[], by simp [ded]⟩
  | s, n :: l => by
    obtain ⟨r, h⟩ := Qkq s n
    obtain ⟨r', h'⟩ := QcA (ins s n) l
    exact ⟨r ++ r', by rw [ded, h', h, List.append_assoc]⟩
theorem QjF {s : List Int} {n v : Int} : v ∈ ins s n ↔ v ∈ s ∨ v = n := by
  unfold ins
  split
  · rename_i h
    exact ⟨.inl, fun h' => h'.elim id (fun e => e ▸ h)⟩
  · simp
theorem Qji : ∀ {s l : List Int} {v : Int}, v ∈ ded s l ↔ v ∈ s ∨ v ∈ l
  | s, [], v => by simp [ded]
  | s, n :: l, v => by
    simp only [ded, Qji (l := l), QjF, List.mem_cons, or_assoc]
theorem Qh9 (s : List Int) (n : Int) : (ins s n).length ≤ s.length + 1 := by
  unfold ins
  split
  · omega
  · simp
theorem Zj : ∀ s l : List Int, (ded s l).length ≤ s.length + l.length
  | s, [] => by simp [ded]
  | s, n :: l => by
    have h1 := Zj (ins s n) l
    have h2 := Qh9 s n
    simp only [ded, QlQ]
    omega
def plc : List Int → Int → Nat
  | [], _ => 0
  | a :: l, n => if a = n then 0 else plc l n + 1
theorem QeC {n : Int} : ∀ {s : List Int} (r : List Int), n ∈ s → plc (s ++ r) n = plc s n
  | a :: s, r, h => by
    simp only [Ql5, plc]
    split
    · rfl
    · rename_i hne
      rw [QeC r (by rcases List.mem_cons.1 h with h | h; exact absurd h.symm hne; exact h)]
theorem Qeb {n : Int} {s : List Int} (r : List Int) (h : n ∉ s) : plc (s ++ n :: r) n = s.length := by
  induction s with
  | nil => simp [plc]
  | cons a s ih =>
    simp only [List.mem_cons, not_or] at h
    simp only [Ql5, plc, if_neg (fun e : a = n => h.1 e.symm), ih h.2, QlQ]
end Go.Proofs.YtenheconhibonaaGreatDoor.Ab
namespace Go.Proofs.YtenheconhibonaaGreatDoor.Ab
mutual
def T.map (g : Int → Int) : T → T
  | .mk k i n l => if k = 1 then .mk k (g i) n l else if k = 2 then .mk k i n (maps g l) else .mk k i n l
def maps (g : Int → Int) : List T → List T
  | [] => []
  | t :: l => t.map g :: maps g l
end
mutual
def T.mapS {σ : Type} (g : σ → Int → Int × σ) : σ → T → T × σ
  | s, .mk k i n l => if k = 1 then (.mk k (g s i).1 n l, (g s i).2) else if k = 2 then (.mk k i n (Qb1 g s l).1, (Qb1 g s l).2) else (.mk k i n l, s)
def Qb1 {σ : Type} (g : σ → Int → Int × σ) : σ → List T → List T × σ
  | s, [] => ([], s)
  | s, t :: l => ((T.mapS g s t).1 :: (Qb1 g (T.mapS g s t).2 l).1, (Qb1 g (T.mapS g s t).2 l).2)
end
theorem T.Qlx {σ : Type} (g : σ → Int → Int × σ) (s : σ) (t : T) : T.mapS g s t = if t.kind = 1 then (.mk t.kind (g s t.int).1 t.name t.args, (g s t.int).2) else if t.kind = 2 then (.mk t.kind t.int t.name (Qb1 g s t.args).1, (Qb1 g s t.args).2) else (t, s) := by
  cases t; simp only [T.mapS, T.kind, T.int, T.name, T.args]; rfl
def gNum : List Int → Int → Int × List Int := fun s n => ((plc (ins s n) n : Nat), ins s n)
mutual
theorem T.Qlj : ∀ (s : List Int) (t : T) (r : List Int), T.mapS gNum s t = (t.map fun n => ((plc (ded s t.vars ++ r) n : Nat) : Int), ded s t.vars)
  | s, .mk k i n l, r => by
    simp only [T.mapS, T.map, T.vars]
    split
    · rename_i h
      simp only [gNum, ded]
      rw [QeC r (QjF.2 (.inr rfl))]
    · split
      · rw [Qbo s l r]
      · rfl
theorem Qbo : ∀ (s : List Int) (l : List T) (r : List Int), Qb1 gNum s l = (maps (fun n => ((plc (ded s (X9 l) ++ r) n : Nat) : Int)) l, ded s (X9 l))
  | s, [], r => rfl
  | s, t :: l, r => by
    obtain ⟨q, hq⟩ := QcA (ded s t.vars) (X9 l)
    simp only [Qb1, maps, X9]
    rw [T.Qlj s t (q ++ r)]
    simp only
    rw [Qbo _ l r]
    simp only [Zv, hq, List.append_assoc]
end
def ZU (s : List Int) : List (Int × AV) := s.zipIdx.map fun p => (p.1, AV.v (.int .i64 ((p.2 : Nat) : Int)))
theorem QgU (s : List Int) (n : Int) : ZU (s ++ [n]) = ZU s ++ [(n, .v (.int .i64 s.length))] := by
  simp [ZU, List.zipIdx_append]
theorem QgN (n : Int) : ∀ (s : List Int), QfV n (ZU s) = if n ∈ s then some (.v (.int .i64 (plc s n : Nat))) else none := by
  have gen : ∀ (s : List Int) (k : Nat), QfV n ((s.zipIdx k).map fun p => (p.1, AV.v (.int .i64 ((p.2 : Nat) : Int)))) = if n ∈ s then some (.v (.int .i64 ((k + plc s n : Nat) : Int))) else none := by
    intro s
    induction s with
    | nil => intro k; rfl
    | cons a s ih =>
      intro k
      simp only [List.zipIdx_cons, QlS, QfV, ih]
      by_cases h : n = a
      · subst h; simp [plc]
      · rw [if_neg h]
        simp only [List.mem_cons, h, false_or, plc, if_neg (fun e : a = n => h e.symm)]
        split
        · congr 3; omega
        · rfl
  intro s
  have := gen s 0
  simpa [ZU] using this
def Yw {X σ : Type} (g : σ → X → X × σ) : σ → List X → List X × σ
  | s, [] => ([], s)
  | s, x :: l => ((g s x).1 :: (Yw g (g s x).2 l).1, (Yw g (g s x).2 l).2)
theorem QaE {σ : Type} (g : σ → Int → Int × σ) : ∀ (s : σ) (l : List T), Qb1 g s l = Yw (T.mapS g) s l
  | s, [] => rfl
  | s, t :: l => by rw [Qb1, Yw, QaE g _ l]
theorem ZM {X σ : Type} (g : σ → X → X × σ) : ∀ (s : σ) (l : List X), (Yw g s l).1.length = l.length
  | s, [] => rfl
  | s, x :: l => by simp only [Yw, QlQ, ZM g _ l]
def mapB (s : List Int) : AB := .map (imap (ZU s))
theorem Zk (s : List Int) (n : Nat) : (mapB s).Below n := by
  intro kv hkv
  simp only [imap, ZU, List.mem_map] at hkv
  obtain ⟨_, ⟨_, _, rfl⟩, rfl⟩ := hkv
  exact .v _
theorem Qcd (s : List Int) : (imap (ZU s)).length = s.length := by simp [imap, ZU]
end Go.Proofs.YtenheconhibonaaGreatDoor.Ab
set_option maxRecDepth 4000
namespace Go.Proofs.YtenheconhibonaaGreatDoor.Ab
open Go.Proofs
section
variable {X : Type} (f : X → AV) (fv : AV)
theorem Qa6 (hfc : ∀ x, (f x).isAgg = true ∧ (f x).cells.length = 4 ∧ (f x).cells.all AV.cell1 = true) (hfb : ∀ (n : Nat) x, ∀ a ∈ (f x).cells, Below n a) (g : List Int → X → X × List Int) (w : X → Nat) (hw : ∀ s x, (g s x).2.length ≤ s.length + w x)
    (l : List X) (hl2 : l.length ≤ 1000000) (m : Nat) (h : AH) (hm : m < h.length) (s0 : List Int) (hs0 : s0.length + (l.map w).sum ≤ 1000000)
    (ih : ∀ x ∈ l, ∀ (h : AH) (s : List Int), m < h.length → s.length + w x ≤ 1000000 → FunW Tryz.prog fv [f x] (hs h m (mapB s)) fun o h' => o = .ret (f (g s x).1) ∧ h' = hs h m (mapB (g s x).2)) :
    Yd Tryz.prog 96 [.sl 4 (vs f l) none, fv] (hs h m (mapB s0)) fun o h' => o = .ret (.sl 4 (vs f (Yw g s0 l).1) none) ∧ h' = hs h m (mapB (Yw g s0 l).2) := by
  have f1 := fun x => Zr h m x
  have f2 := fun x L => QaP (h := h) (i := m) x L
  have f3 := fun x L k => Qen (h := h) (i := m) x L k
  have f4 := fun x y L => Qbk (h := h) (i := m) x y L
  have f5 := fun x y L k => Qcm (h := h) (i := m) x y L k
  refine Qh Tryz.func96 rfl Tryz.call96 Tryz.ntmps96 (congrArg Array.toList Tryz.results96) (by simp) ?_
  iterate 4 (try (first | (((with_reducible refine Qa fun K E hK hE => ?_)); simp -implicitDefEqProofs only [Qd, Qb, Qg, OpW, aop, AS.ev, Qc, Xq, Nat.reduceLT]) | ((with_reducible refine hK _ ?_); clear hK)))
  refine Y2 5 69 4 rfl ?_
  repeat (first | (((with_reducible refine Qa fun K E hK hE => ?_)); simp -implicitDefEqProofs only [Qd, Qb, Qg, OpW, aop, undef, AS.ev, Qc, Qq, Qk, QD, QlK, ↓reduceIte, Nat.reduceLT, Nat.reduceEqDiff, aLen, QlF, goInt, un44, QG]) | (with_reducible (first | refine Qi fun K hK => ?_ | refine Qm ?_)) | ((with_reducible refine hK _ ?_); clear hK))
  obtain ⟨I, hI⟩ : ∃ I : Nat → AS → Prop, I = fun m' s => ∃ (k : Nat) (out : List X) (cur : List Int), m' = l.length - k ∧ k ≤ l.length ∧ out.length = k ∧ Yw g s0 l = (out ++ (Yw g cur (l.drop k)).1, (Yw g cur (l.drop k)).2) ∧ cur.length + ((l.drop k).map w).sum ≤ 1000000 ∧ s.tm 1 = fv ∧ s.tm 5 = .sl 4 (vs f out) (some h.length) ∧ s.tm 8 = .sl 4 (vs f l) none ∧ s.tm 9 = .i l.length ∧ s.tm 10 = .i k ∧ (∃ L, s.h = hs h m (mapB cur) ++ (AB.grow 69 4 k :: L)) := ⟨_, rfl⟩; refine Q9 I ?_ (m := l.length) ?_
  · intro m' s hs; rw [hI] at hs; obtain ⟨tm, hp⟩ := s; dsimp only at hs; obtain ⟨k, out, cur, rfl, hk, ho, he, hw2, t1, t5, t8, t9, t10, L, rfl⟩ := hs
    by_cases hlt : k < l.length
    · have hg := YN f hlt
      have z1 : (k : Int) < l.length := by omega
      obtain ⟨hag, hcl, hc1⟩ := hfc l[k]
      have hd : l.drop k = l[k] :: l.drop (k + 1) := List.drop_eq_getElem_cons hlt
      rw [hd] at he hw2
      rw [List.map_cons, List.sum_cons] at hw2
      simp only [Yw] at he
      obtain ⟨x', ex'⟩ : ∃ x', x' = (g cur l[k]).1 := ⟨_, rfl⟩
      obtain ⟨cur', ec'⟩ : ∃ x', x' = (g cur l[k]).2 := ⟨_, rfl⟩
      have hwk := hw cur l[k]
      obtain ⟨hag', hcl', hc1'⟩ := hfc x'
      have c2 := ih l[k] (List.getElem_mem hlt) (h ++ (AB.grow 69 4 k :: (L ++ [AB.cells 69 4 [f l[k]]]))) cur (by rw [List.length_append]; omega) (by omega)
      rw [Qag hm, Qag hm, ← ex', ← ec'] at c2
      rw [← ex', ← ec'] at he
      rw [← ec'] at hwk
      have hb1 : k + 1 ≤ maxLen := by simp only [maxLen]; omega
      have hb2 : (k + 1) * 56 ≤ 140737488355328 := by omega
      have e5 : vs f (out ++ [x']) = vs f out ++ [f x'] := Qa8 f out [x']
      repeat (first | ((first | (with_reducible (first | refine Qa fun K E hK hE => ?_ | refine Qo fun K E hK hE => ?_ | refine FunW.ret c2 ?_))); simp -implicitDefEqProofs only [Qd, Qb, Qg, OpW, QR, aop, undef, AS.ev, Qc, QY, Qq, Qk, AV.Qk5, Qy, QM, QlX, QlY, QC, QA, QP, QlZ, ↓reduceIte, QlQ, QlR, Nat.reduceAdd, Nat.reduceLT, Nat.reduceLeDiff, Nat.reduceEqDiff, Nat.reduceMul, QlP, Qmb, QK, QL, Xj, Q0, QJ, aBin, Q7, YV, Ze, QO, Yg, hlen, happ, QlD, QlE, Ql7, Ql8, QlF, QlS, QlW, Ql5, QW, Xf, Ql9, QlL, Qmg, Qmf, rng1, Xa, Nat.reducePow, ei44, ai44, ti69, zi69, t1, t5, t8, t9, t10, z1, hg, hag, hcl, hc1, hcl', hc1', f1, f2, f3, f4, f5, hb1, hb2, ho, QG]) | (with_reducible (first | refine Qi fun K hK => ?_ | refine Qm ?_ | refine Qv ?_ | refine Qf ?_ | refine Qw ?_)) | ((with_reducible refine hK _ ?_); clear hK) | (refine Qj rfl ?_; simp only [↓reduceIte]))
      refine XD.mk (m' := l.length - (k + 1)) (by omega) ?_
      rw [hI]
      refine ⟨k + 1, out ++ [x'], cur', rfl, hlt, by rw [List.length_append, ho]; rfl, ?_, by omega, t1, ?_, t8, t9, ?_, _, rfl⟩
      · rw [he]; simp only [List.append_assoc, Ql5, Ql4]
      · rw [e5]; rfl
      · simp only [upd, ↓reduceIte]
        rw [Xe (by omega)]
    · have hkn : k = l.length := by omega
      subst hkn
      have z1 : ¬ ((l.length : Nat) : Int) < l.length := by omega
      rw [List.drop_length] at he
      simp only [Yw, Ql6] at he
      repeat (first | (((with_reducible refine Qa fun K E hK hE => ?_)); simp -implicitDefEqProofs only [Qd, Qb, Qg, OpW, aop, AS.ev, Qc, Qk, ↓reduceIte, Nat.reduceLT, Nat.reduceEqDiff, aBin, QlF, QW, Qma, t5, t9, t10, z1]) | (with_reducible (first | refine Qi fun K hK => ?_ | refine Qn ?_ | refine Q2 ?_ | refine Qf ?_ | refine QU ?_ | refine QV ?_)) | ((with_reducible refine hK _ ?_); clear hK) | (clear hK; (with_reducible refine hK _ ?_); clear hK) | (refine Qj rfl ?_; simp only [↓reduceIte, QlH]))
      simp only [QN, Qp, Qu, upd, ↓reduceIte, QlJ, QlN]
      rw [he]
      exact XC (Zk _ _) (.tok (Qa7 f _ (hfb _) _)) ⟨rfl, rfl⟩
  · rw [hI]
    exact ⟨0, [], s0, rfl, by omega, rfl, rfl, hs0, rfl, (by show AV.sl 4 [] (some (hs h m (mapB s0)).length) = _; rw [Zr]; rfl), rfl, rfl, rfl, [], rfl⟩
end
section
variable {X : Type} (f : X → AV) (fv : AV)
theorem QgA (hfc : ∀ x, (f x).isAgg = true ∧ (f x).cells.length = 2 ∧ (f x).cells.all AV.cell1 = true) (hfb : ∀ (n : Nat) x, ∀ a ∈ (f x).cells, Below n a) (g : List Int → X → X × List Int) (w : X → Nat) (hw : ∀ s x, (g s x).2.length ≤ s.length + w x)
    (l : List X) (hl2 : l.length ≤ 1000000) (m : Nat) (h : AH) (hm : m < h.length) (s0 : List Int) (hs0 : s0.length + (l.map w).sum ≤ 1000000)
    (ih : ∀ x ∈ l, ∀ (h : AH) (s : List Int), m < h.length → s.length + w x ≤ 1000000 → FunW Tryz.prog fv [f x] (hs h m (mapB s)) fun o h' => o = .ret (f (g s x).1) ∧ h' = hs h m (mapB (g s x).2)) :
    Yd Tryz.prog 47 [.sl 2 (vs f l) none, fv] (hs h m (mapB s0)) fun o h' => o = .ret (.sl 2 (vs f (Yw g s0 l).1) none) ∧ h' = hs h m (mapB (Yw g s0 l).2) := by
  have f1 := fun x => Zr h m x
  have f2 := fun x L => QaP (h := h) (i := m) x L
  have f3 := fun x L k => Qen (h := h) (i := m) x L k
  have f4 := fun x y L => Qbk (h := h) (i := m) x y L
  have f5 := fun x y L k => Qcm (h := h) (i := m) x y L k
  refine Qh Tryz.func47 rfl Tryz.call47 Tryz.ntmps47 (congrArg Array.toList Tryz.results47) (by simp) ?_
  iterate 4 (try (first | (((with_reducible refine Qa fun K E hK hE => ?_)); simp -implicitDefEqProofs only [Qd, Qb, Qg, OpW, aop, AS.ev, Qc, Xq, Nat.reduceLT]) | ((with_reducible refine hK _ ?_); clear hK)))
  refine Y2 5 66 2 rfl ?_
  repeat (first | (((with_reducible refine Qa fun K E hK hE => ?_)); simp -implicitDefEqProofs only [Qd, Qb, Qg, OpW, aop, undef, AS.ev, Qc, Qq, Qk, QD, QlK, ↓reduceIte, Nat.reduceLT, Nat.reduceEqDiff, aLen, QlF, goInt, un22, QG]) | (with_reducible (first | refine Qi fun K hK => ?_ | refine Qm ?_)) | ((with_reducible refine hK _ ?_); clear hK))
  obtain ⟨I, hI⟩ : ∃ I : Nat → AS → Prop, I = fun m' s => ∃ (k : Nat) (out : List X) (cur : List Int), m' = l.length - k ∧ k ≤ l.length ∧ out.length = k ∧ Yw g s0 l = (out ++ (Yw g cur (l.drop k)).1, (Yw g cur (l.drop k)).2) ∧ cur.length + ((l.drop k).map w).sum ≤ 1000000 ∧ s.tm 1 = fv ∧ s.tm 5 = .sl 2 (vs f out) (some h.length) ∧ s.tm 8 = .sl 2 (vs f l) none ∧ s.tm 9 = .i l.length ∧ s.tm 10 = .i k ∧ (∃ L, s.h = hs h m (mapB cur) ++ (AB.grow 66 2 k :: L)) := ⟨_, rfl⟩; refine Q9 I ?_ (m := l.length) ?_
  · intro m' s hs; rw [hI] at hs; obtain ⟨tm, hp⟩ := s; dsimp only at hs; obtain ⟨k, out, cur, rfl, hk, ho, he, hw2, t1, t5, t8, t9, t10, L, rfl⟩ := hs
    by_cases hlt : k < l.length
    · have hg := YN f hlt
      have z1 : (k : Int) < l.length := by omega
      obtain ⟨hag, hcl, hc1⟩ := hfc l[k]
      have hd : l.drop k = l[k] :: l.drop (k + 1) := List.drop_eq_getElem_cons hlt
      rw [hd] at he hw2
      rw [List.map_cons, List.sum_cons] at hw2
      simp only [Yw] at he
      obtain ⟨x', ex'⟩ : ∃ x', x' = (g cur l[k]).1 := ⟨_, rfl⟩
      obtain ⟨cur', ec'⟩ : ∃ x', x' = (g cur l[k]).2 := ⟨_, rfl⟩
      have hwk := hw cur l[k]
      obtain ⟨hag', hcl', hc1'⟩ := hfc x'
      have c2 := ih l[k] (List.getElem_mem hlt) (h ++ (AB.grow 66 2 k :: (L ++ [AB.cells 66 2 [f l[k]]]))) cur (by rw [List.length_append]; omega) (by omega)
      rw [Qag hm, Qag hm, ← ex', ← ec'] at c2
      rw [← ex', ← ec'] at he
      rw [← ec'] at hwk
      have hb1 : k + 1 ≤ maxLen := by simp only [maxLen]; omega
      have hb2 : (k + 1) * 40 ≤ 140737488355328 := by omega
      have e5 : vs f (out ++ [x']) = vs f out ++ [f x'] := Qa8 f out [x']
      repeat (first | ((first | (with_reducible (first | refine Qa fun K E hK hE => ?_ | refine Qo fun K E hK hE => ?_ | refine FunW.ret c2 ?_))); simp -implicitDefEqProofs only [Qd, Qb, Qg, OpW, QR, aop, undef, AS.ev, Qc, QY, Qq, Qk, AV.Qk5, Qy, QM, QlX, QlY, QA, QP, QlZ, ↓reduceIte, QlQ, QlR, Nat.reduceAdd, Nat.reduceLT, Nat.reduceLeDiff, Nat.reduceEqDiff, Nat.reduceMul, QlP, Qmb, QK, QL, Xj, Q0, QJ, aBin, Q7, YV, Ze, QO, Yg, hlen, happ, QlD, QlE, Ql7, Ql8, QlF, QlS, QlW, Ql5, QW, Xf, Ql9, QlL, Qmg, Qmf, rng1, Xa, Nat.reducePow, ei22, ai22, ti66, zi66, t1, t5, t8, t9, t10, z1, hg, hag, hcl, hc1, hcl', hc1', f1, f2, f3, f4, f5, hb1, hb2, ho, QG]) | (with_reducible (first | refine Qi fun K hK => ?_ | refine Qm ?_ | refine Qv ?_ | refine Qf ?_ | refine Qw ?_)) | ((with_reducible refine hK _ ?_); clear hK) | (refine Qj rfl ?_; simp only [↓reduceIte]))
      refine XD.mk (m' := l.length - (k + 1)) (by omega) ?_
      rw [hI]
      refine ⟨k + 1, out ++ [x'], cur', rfl, hlt, by rw [List.length_append, ho]; rfl, ?_, by omega, t1, ?_, t8, t9, ?_, _, rfl⟩
      · rw [he]; simp only [List.append_assoc, Ql5, Ql4]
      · rw [e5]; rfl
      · simp only [upd, ↓reduceIte]
        rw [Xe (by omega)]
    · have hkn : k = l.length := by omega
      subst hkn
      have z1 : ¬ ((l.length : Nat) : Int) < l.length := by omega
      rw [List.drop_length] at he
      simp only [Yw, Ql6] at he
      repeat (first | (((with_reducible refine Qa fun K E hK hE => ?_)); simp -implicitDefEqProofs only [Qd, Qb, Qg, OpW, aop, AS.ev, Qc, Qk, ↓reduceIte, Nat.reduceLT, Nat.reduceEqDiff, aBin, QlF, QW, Qma, t5, t9, t10, z1]) | (with_reducible (first | refine Qi fun K hK => ?_ | refine Qn ?_ | refine Q2 ?_ | refine Qf ?_ | refine QU ?_ | refine QV ?_)) | ((with_reducible refine hK _ ?_); clear hK) | (clear hK; (with_reducible refine hK _ ?_); clear hK) | (refine Qj rfl ?_; simp only [↓reduceIte, QlH]))
      simp only [QN, Qp, Qu, upd, ↓reduceIte, QlJ, QlN]
      rw [he]
      exact XC (Zk _ _) (.tok (Qa7 f _ (hfb _) _)) ⟨rfl, rfl⟩
  · rw [hI]
    exact ⟨0, [], s0, rfl, by omega, rfl, rfl, hs0, rfl, (by show AV.sl 2 [] (some (hs h m (mapB s0)).length) = _; rw [Zr]; rfl), rfl, rfl, rfl, [], rfl⟩
end
section
variable {X : Type} (f : X → AV) (fv : AV)
theorem Qgs (hfc : ∀ x, (f x).isAgg = true ∧ (f x).cells.length = 3 ∧ (f x).cells.all AV.cell1 = true) (hfb : ∀ (n : Nat) x, ∀ a ∈ (f x).cells, Below n a) (g : List Int → X → X × List Int) (w : X → Nat) (hw : ∀ s x, (g s x).2.length ≤ s.length + w x)
    (l : List X) (hl2 : l.length ≤ 1000000) (m : Nat) (h : AH) (hm : m < h.length) (s0 : List Int) (hs0 : s0.length + (l.map w).sum ≤ 1000000)
    (ih : ∀ x ∈ l, ∀ (h : AH) (s : List Int), m < h.length → s.length + w x ≤ 1000000 → FunW Tryz.prog fv [f x] (hs h m (mapB s)) fun o h' => o = .ret (f (g s x).1) ∧ h' = hs h m (mapB (g s x).2)) :
    Yd Tryz.prog 49 [.sl 3 (vs f l) none, fv] (hs h m (mapB s0)) fun o h' => o = .ret (.sl 3 (vs f (Yw g s0 l).1) none) ∧ h' = hs h m (mapB (Yw g s0 l).2) := by
  have f1 := fun x => Zr h m x
  have f2 := fun x L => QaP (h := h) (i := m) x L
  have f3 := fun x L k => Qen (h := h) (i := m) x L k
  have f4 := fun x y L => Qbk (h := h) (i := m) x y L
  have f5 := fun x y L k => Qcm (h := h) (i := m) x y L k
  refine Qh Tryz.func49 rfl Tryz.call49 Tryz.ntmps49 (congrArg Array.toList Tryz.results49) (by simp) ?_
  iterate 4 (try (first | (((with_reducible refine Qa fun K E hK hE => ?_)); simp -implicitDefEqProofs only [Qd, Qb, Qg, OpW, aop, AS.ev, Qc, Xq, Nat.reduceLT]) | ((with_reducible refine hK _ ?_); clear hK)))
  refine Y2 5 53 3 rfl ?_
  repeat (first | (((with_reducible refine Qa fun K E hK hE => ?_)); simp -implicitDefEqProofs only [Qd, Qb, Qg, OpW, aop, undef, AS.ev, Qc, Qq, Qk, QD, QlK, ↓reduceIte, Nat.reduceLT, Nat.reduceEqDiff, aLen, QlF, goInt, un23, QG]) | (with_reducible (first | refine Qi fun K hK => ?_ | refine Qm ?_)) | ((with_reducible refine hK _ ?_); clear hK))
  obtain ⟨I, hI⟩ : ∃ I : Nat → AS → Prop, I = fun m' s => ∃ (k : Nat) (out : List X) (cur : List Int), m' = l.length - k ∧ k ≤ l.length ∧ out.length = k ∧ Yw g s0 l = (out ++ (Yw g cur (l.drop k)).1, (Yw g cur (l.drop k)).2) ∧ cur.length + ((l.drop k).map w).sum ≤ 1000000 ∧ s.tm 1 = fv ∧ s.tm 5 = .sl 3 (vs f out) (some h.length) ∧ s.tm 8 = .sl 3 (vs f l) none ∧ s.tm 9 = .i l.length ∧ s.tm 10 = .i k ∧ (∃ L, s.h = hs h m (mapB cur) ++ (AB.grow 53 3 k :: L)) := ⟨_, rfl⟩; refine Q9 I ?_ (m := l.length) ?_
  · intro m' s hs; rw [hI] at hs; obtain ⟨tm, hp⟩ := s; dsimp only at hs; obtain ⟨k, out, cur, rfl, hk, ho, he, hw2, t1, t5, t8, t9, t10, L, rfl⟩ := hs
    by_cases hlt : k < l.length
    · have hg := YN f hlt
      have z1 : (k : Int) < l.length := by omega
      obtain ⟨hag, hcl, hc1⟩ := hfc l[k]
      have hd : l.drop k = l[k] :: l.drop (k + 1) := List.drop_eq_getElem_cons hlt
      rw [hd] at he hw2
      rw [List.map_cons, List.sum_cons] at hw2
      simp only [Yw] at he
      obtain ⟨x', ex'⟩ : ∃ x', x' = (g cur l[k]).1 := ⟨_, rfl⟩
      obtain ⟨cur', ec'⟩ : ∃ x', x' = (g cur l[k]).2 := ⟨_, rfl⟩
      have hwk := hw cur l[k]
      obtain ⟨hag', hcl', hc1'⟩ := hfc x'
      have c2 := ih l[k] (List.getElem_mem hlt) (h ++ (AB.grow 53 3 k :: (L ++ [AB.cells 53 3 [f l[k]]]))) cur (by rw [List.length_append]; omega) (by omega)
      rw [Qag hm, Qag hm, ← ex', ← ec'] at c2
      rw [← ex', ← ec'] at he
      rw [← ec'] at hwk
      have hb1 : k + 1 ≤ maxLen := by simp only [maxLen]; omega
      have hb2 : (k + 1) * 48 ≤ 140737488355328 := by omega
      have e5 : vs f (out ++ [x']) = vs f out ++ [f x'] := Qa8 f out [x']
      repeat (first | ((first | (with_reducible (first | refine Qa fun K E hK hE => ?_ | refine Qo fun K E hK hE => ?_ | refine FunW.ret c2 ?_))); simp -implicitDefEqProofs only [Qd, Qb, Qg, OpW, QR, aop, undef, AS.ev, Qc, QY, Qq, Qk, AV.Qk5, Qy, QM, QlX, QlY, QC, QA, QP, QlZ, ↓reduceIte, QlQ, QlR, Nat.reduceAdd, Nat.reduceLT, Nat.reduceLeDiff, Nat.reduceEqDiff, Nat.reduceMul, QlP, Qmb, QK, QL, Xj, Q0, QJ, aBin, Q7, YV, Ze, QO, Yg, hlen, happ, QlD, QlE, Ql7, Ql8, QlF, QlS, QlW, Ql5, QW, Xf, Ql9, QlL, Qmg, Qmf, rng1, Xa, Nat.reducePow, ei23, ai23, ti53, zi53, t1, t5, t8, t9, t10, z1, hg, hag, hcl, hc1, hcl', hc1', f1, f2, f3, f4, f5, hb1, hb2, ho, QG]) | (with_reducible (first | refine Qi fun K hK => ?_ | refine Qm ?_ | refine Qv ?_ | refine Qf ?_ | refine Qw ?_)) | ((with_reducible refine hK _ ?_); clear hK) | (refine Qj rfl ?_; simp only [↓reduceIte]))
      refine XD.mk (m' := l.length - (k + 1)) (by omega) ?_
      rw [hI]
      refine ⟨k + 1, out ++ [x'], cur', rfl, hlt, by rw [List.length_append, ho]; rfl, ?_, by omega, t1, ?_, t8, t9, ?_, _, rfl⟩
      · rw [he]; simp only [List.append_assoc, Ql5, Ql4]
      · rw [e5]; rfl
      · simp only [upd, ↓reduceIte]
        rw [Xe (by omega)]
    · have hkn : k = l.length := by omega
      subst hkn
      have z1 : ¬ ((l.length : Nat) : Int) < l.length := by omega
      rw [List.drop_length] at he
      simp only [Yw, Ql6] at he
      repeat (first | (((with_reducible refine Qa fun K E hK hE => ?_)); simp -implicitDefEqProofs only [Qd, Qb, Qg, OpW, aop, AS.ev, Qc, Qk, ↓reduceIte, Nat.reduceLT, Nat.reduceEqDiff, aBin, QlF, QW, Qma, t5, t9, t10, z1]) | (with_reducible (first | refine Qi fun K hK => ?_ | refine Qn ?_ | refine Q2 ?_ | refine Qf ?_ | refine QU ?_ | refine QV ?_)) | ((with_reducible refine hK _ ?_); clear hK) | (clear hK; (with_reducible refine hK _ ?_); clear hK) | (refine Qj rfl ?_; simp only [↓reduceIte, QlH]))
      simp only [QN, Qp, Qu, upd, ↓reduceIte, QlJ, QlN]
      rw [he]
      exact XC (Zk _ _) (.tok (Qa7 f _ (hfb _) _)) ⟨rfl, rfl⟩
  · rw [hI]
    exact ⟨0, [], s0, rfl, by omega, rfl, rfl, hs0, rfl, (by show AV.sl 3 [] (some (hs h m (mapB s0)).length) = _; rw [Zr]; rfl), rfl, rfl, rfl, [], rfl⟩
end
end Go.Proofs.YtenheconhibonaaGreatDoor.Ab
set_option maxRecDepth 4000
namespace Go.Proofs.YtenheconhibonaaGreatDoor.Ab
open Go.Proofs
theorem Qej (l : List T) : avs l = vs T.av l := Qba l
theorem Qg6 (t : T) : t.av.isAgg = true ∧ t.av.cells.length = 4 ∧ t.av.cells.all AV.cell1 = true := by cases t; exact ⟨rfl, rfl, rfl⟩
theorem Qe8 (n : Nat) (t : T) : ∀ a ∈ t.av.cells, Below n a := fun a ha => Qac n [t] a (by rw [QkD, Yz]; exact List.mem_append.2 (.inl ha))
mutual
theorem T.Qk9 : ∀ (t : T), t.vars.length ≤ t.nds
  | .mk k i n l => by
    simp only [T.vars, T.nds]
    split
    · simp
    · split
      · have := ZQ l; omega
      · simp
theorem ZQ : ∀ (l : List T), (X9 l).length ≤ ndsL l
  | [] => by simp [X9, ndsL]
  | t :: l => by
    have h1 := T.Qk9 t
    have h2 := ZQ l
    simp only [X9, ndsL, Qmu]; omega
end
abbrev nT (s : List Int) (t : T) : T × List Int := T.mapS gNum s t
theorem QgX (s : List Int) (t : T) : (nT s t).2.length ≤ s.length + t.nds := by
  rw [nT, T.Qlj s t []]
  have := Zj s t.vars
  have := T.Qk9 t
  simp only
  omega
theorem Qfd (l : List T) : (l.map T.nds).sum = ndsL l := by
  induction l with
  | nil => rfl
  | cons t l ih => rw [List.map_cons, List.sum_cons, ih]; rfl
def NIh (m : Nat) (t : T) : Prop := ∀ (h : AH) (s : List Int), m < h.length → s.length + t.nds ≤ 1000000 → FunW Tryz.prog (.fn (.func 97) [.mp m] []) [t.av] (hs h m (mapB s)) fun o h' => o = .ret ((nT s t).1).av ∧ h' = hs h m (mapB (nT s t).2)
theorem QfW (m : Nat) (t : T) (hl : t.args.length ≤ 1000000) (ih : ∀ a ∈ t.args, NIh m a) (h : AH) (s : List Int) (hm : m < h.length) (hs0 : s.length + t.nds ≤ 1000000) :
    Yd Tryz.prog 97 [.mp m, t.av] (hs h m (mapB s)) fun o h' => o = .ret ((nT s t).1).av ∧ h' = hs h m (mapB (nT s t).2) := by
  have eav : t.av = .agg [.i t.kind, .i t.int, .v (.string t.name), .sl 4 (avs t.args) none] := by cases t; rfl
  have en : nT s t = if t.kind = 1 then (.mk t.kind (gNum s t.int).1 t.name t.args, (gNum s t.int).2) else if t.kind = 2 then (.mk t.kind t.int t.name (Qb1 gNum s t.args).1, (Qb1 gNum s t.args).2) else (t, s) := T.Qlx gNum s t
  have f1 := fun x => Zr h m x
  have f2 := fun x L => QaP (h := h) (i := m) x L
  have f3 := fun x L k => Qen (h := h) (i := m) x L k
  have f4 := fun x y L => Qbk (h := h) (i := m) x y L
  have f5 := fun x y L k => Qcm (h := h) (i := m) x y L k
  have f6 : ∀ s L, (hs h m (mapB s) ++ L)[m]? = some (.map (imap (ZU s))) := fun s L => Qhc hm _ L
  have f7 : ∀ s s' L, (hs h m (mapB s) ++ L).set m (.map (imap (ZU s'))) = hs h m (mapB s') ++ L := fun s s' L => Qhi hm _ _ L
  by_cases k1 : t.kind = 1
  · rw [if_pos k1] at en
    rw [k1] at eav
    by_cases hmem : t.int ∈ s
    · have hf : QeI (.int .i64) (.int .i64 t.int) (imap (ZU s)) = some (some (.i (plc s t.int : Nat))) := by rw [QdK, QgN, if_pos hmem]
      have e1 : ins s t.int = s := if_pos hmem
      rw [eav, en]
      refine Qh Tryz.func97 rfl Tryz.call97 Tryz.ntmps97 (congrArg Array.toList Tryz.results97) (by simp) ?_
      repeat (first | ((first | (with_reducible (first | refine Qa fun K E hK hE => ?_ | refine Qo fun K E hK hE => ?_))); simp -implicitDefEqProofs only [Qd, Qb, Qg, OpW, aop, undef, AS.ev, Qc, QY, Qq, Qk, QD, QlK, Ql3, AV.Qk5, Qy, Q6, QM, Xy, QlX, QlY, QC, QA, QP, QI, QlZ, Ql0, ↓reduceIte, QlQ, QlR, Nat.reduceAdd, Nat.reduceLT, Nat.reduceLeDiff, Nat.reduceEqDiff, QlP, Ql2, Qmb, Ql, QK, QL, Xj, Q0, aBin, Yt, Qbb, hlen, happ, QlD, QlE, Ql7, Ql8, QlF, Ql5, Ql4, QlO, QlV, QlM, QlU, QS, Xb, QlL, QlH, ti3, ti69, Xu, XS, zi69, mi92, f1, f2, f3, f4, f5, f6, hf]) | (with_reducible (first | refine Qi fun K hK => ?_ | refine Qm ?_ | refine Qn ?_ | refine Qv ?_ | refine Qf ?_ | refine Qw ?_)) | ((with_reducible refine hK _ ?_); clear hK) | (refine Qj rfl ?_; simp only [↓reduceIte, QlH]))
      simp -implicitDefEqProofs only [Qk, Qy, QM, ↓reduceIte, QlQ, QlR, Nat.reduceAdd, Nat.reduceEqDiff, QlP, Qmb, QK, QL, QlD, QlE, QlJ, ti69, f3, QN, Qp, Qu, QlN]
      refine XC (Zk _ _) (.keep ?_) ?_
      exact T.Qle _ (.mk _ _ _ _)
      exact ⟨by simp only [gNum, e1, k1]; rfl, by simp only [gNum, e1]⟩
    · have hf : QeI (.int .i64) (.int .i64 t.int) (imap (ZU s)) = some none := by rw [QdK, QgN, if_neg hmem]
      have e1 : ins s t.int = s ++ [t.int] := if_neg hmem
      have hu : updA (.int .i64) (.int .i64 t.int) (.i s.length) (imap (ZU s)) = some (imap (ZU (s ++ [t.int]))) := by
        rw [QhO _ _ _ (by rw [QgN, if_neg hmem]), QgU]
      rw [eav, en]
      refine Qh Tryz.func97 rfl Tryz.call97 Tryz.ntmps97 (congrArg Array.toList Tryz.results97) (by simp) ?_
      repeat (first | ((first | (with_reducible (first | refine Qa fun K E hK hE => ?_ | refine Qo fun K E hK hE => ?_))); simp -implicitDefEqProofs only [Qd, Qb, Qg, OpW, aop, undef, AS.ev, Qc, QY, Qq, Qk, QD, QlK, Ql3, AV.Qk5, Qy, Q6, QM, Xy, QlX, QlY, QC, QA, QP, QI, QlZ, Ql1, ↓reduceIte, QlQ, QlR, Nat.reduceAdd, Nat.reduceLT, Nat.reduceLeDiff, Nat.reduceEqDiff, QlP, Ql2, Qmb, Ql, QK, QL, Xj, Q0, aBin, Yt, aLen, Qbb, Qar, hlen, happ, QlD, QlE, Ql7, Ql8, QlF, Ql5, Ql4, QlO, QlV, QlM, QlU, QS, Xb, goInt, QlL, QlH, ti3, zi3, ti69, Xu, XS, zi69, mi92, un92, f1, f2, f3, f4, f5, f6, f7, hf, hu, Qcd]) | (with_reducible (first | refine Qi fun K hK => ?_ | refine Qm ?_ | refine Qn ?_ | refine Qf ?_ | refine Qw ?_)) | ((with_reducible refine hK _ ?_); clear hK) | (refine Qj rfl ?_; simp only [↓reduceIte]))
      simp -implicitDefEqProofs only [Qk, Qy, QM, ↓reduceIte, QlQ, QlR, Nat.reduceAdd, Nat.reduceEqDiff, QlP, Qmb, QK, QL, QlD, QlE, QlJ, ti69, f3, QN, Qp, Qu, QlN]
      refine XC (Zk _ _) (.keep ?_) ?_
      exact T.Qle _ (.mk _ _ _ _)
      exact ⟨by simp only [gNum, e1, k1, Qeb [] hmem]; rfl, by simp only [gNum, e1]⟩
  · rw [if_neg k1] at en
    have z1 : (t.kind == 1) = false := by simpa using k1
    by_cases k2 : t.kind = 2
    · rw [if_pos k2] at en
      have hnd : s.length + ndsL t.args ≤ 1000000 := by cases t; simp only [T.nds] at hs0; simp only [T.args]; omega
      rw [k2] at eav
      have z2 : ((2 : Int) == 1) = false := by decide
      have c := Qa6 T.av (.fn (.func 97) [.mp m] []) Qg6 Qe8 nT T.nds QgX t.args hl m (h ++ [AB.cells 69 4 [t.av], AB.cells 69 4 [.agg [.i 0, .i 0, .v (.string { data := #[] }), .v (.slice none 0 0)]]]) (by rw [List.length_append]; omega) s (by rw [Qfd]; exact hnd) ih
      rw [← Qej, ← Qej, ← QaE, Qag hm, Qag hm, eav] at c
      rw [eav, en]
      refine Qh Tryz.func97 rfl Tryz.call97 Tryz.ntmps97 (congrArg Array.toList Tryz.results97) (by simp) ?_
      repeat (first | ((first | (with_reducible (first | refine Qa fun K E hK hE => ?_ | refine Qo fun K E hK hE => ?_ | refine FunW.ret (FunW.call c) ?_))); simp -implicitDefEqProofs only [Qd, Qb, Qg, OpW, QR, aop, undef, AS.ev, Qc, QY, Qq, Qk, QD, QlK, Ql3, AV.Qk5, Qy, Xs, QM, XJ, QlX, QlY, QC, QA, QP, QI, QlZ, ↓reduceIte, QlQ, QlR, Nat.reduceAdd, Nat.reduceLT, Nat.reduceLeDiff, Nat.reduceEqDiff, QlP, Ql2, Qmb, Ql, QK, QL, Xj, Q0, aBin, hlen, happ, QlD, QlE, Ql7, Ql8, QlF, QlS, QlW, Ql5, Ql4, Ql6, QlO, QlV, QlM, QlU, QS, QlL, QlH, ti3, ti44, ti69, Xu, XN, zi69, f1, f2, f3, f4, f5, z2]) | (with_reducible (first | refine Qi fun K hK => ?_ | refine Qm ?_ | refine Qn ?_ | refine Qf ?_ | refine Qw ?_)) | ((with_reducible refine hK _ ?_); clear hK) | (refine Qj rfl ?_; simp only [↓reduceIte, QlH]))
      simp -implicitDefEqProofs only [Qk, Qy, QM, ↓reduceIte, QlQ, QlR, Nat.reduceAdd, Nat.reduceEqDiff, QlP, Qmb, QK, QL, QlD, QlE, QlJ, ti69, f3, QN, Qp, Qu, QlN]
      refine XC (Zk _ _) (.keep ?_) ?_
      exact T.Qle _ (.mk _ _ _ _)
      exact ⟨by simp only [k2]; rfl, rfl⟩
    · rw [if_neg k2] at en
      have z2 : (t.kind == 2) = false := by simpa using k2
      rw [eav, en]
      refine Qh Tryz.func97 rfl Tryz.call97 Tryz.ntmps97 (congrArg Array.toList Tryz.results97) (by simp) ?_
      repeat (first | (((with_reducible refine Qa fun K E hK hE => ?_)); simp -implicitDefEqProofs only [Qd, Qb, Qg, OpW, aop, undef, AS.ev, Qc, QY, Qq, Qk, QD, QlK, Ql3, AV.Qk5, Qy, QM, QlX, QlY, QC, QA, QP, QI, QlZ, ↓reduceIte, QlQ, QlR, Nat.reduceAdd, Nat.reduceLT, Nat.reduceEqDiff, QlP, Ql2, Qmb, Ql, QK, QL, Xj, Q0, aBin, hlen, happ, QlD, QlE, Ql7, Ql8, QlF, Ql5, Ql4, QS, ti3, ti69, Xu, zi69, f1, f2, f3, f5, z1, z2]) | (with_reducible (first | refine Qi fun K hK => ?_ | refine Qm ?_ | refine Qn ?_ | refine Qv ?_ | refine Qf ?_ | refine Qw ?_)) | ((with_reducible refine hK _ ?_); clear hK) | (refine Qj rfl ?_; simp only [↓reduceIte, QlH]))
      simp -implicitDefEqProofs only [Qk, Qy, QM, ↓reduceIte, QlQ, QlR, Nat.reduceAdd, Nat.reduceEqDiff, QlP, Qmb, QK, QL, QlD, QlE, QlJ, ti69, f3, QN, Qp, Qu, QlN]
      refine XC (Zk _ _) (.keep ?_) ?_
      exact T.Qle _ (.mk _ _ _ _)
      exact ⟨by rw [← eav], rfl⟩
mutual
theorem T.Qlu : ∀ (t : T), t.nds ≤ 1000000 → ∀ m, NIh m t
  | .mk k i n l, hn, m => fun h s hm hs0 => by
    refine FunW.fn ?_
    have hnl : ndsL l ≤ 1000000 := by simp only [T.nds] at hn; omega
    exact QfW m (.mk k i n l) (by have := XK l; simp only [T.args]; omega) (Qb3 l hnl m) h s hm hs0
theorem Qb3 : ∀ (l : List T), ndsL l ≤ 1000000 → ∀ m, ∀ a ∈ l, NIh m a
  | [], _, _, a, ha => by cases ha
  | t :: l, hn, m, a, ha => by
    simp only [ndsL] at hn
    have h1 := T.Qlu t (by omega) m
    have h2 := Qb3 l (by omega) m
    rcases List.mem_cons.1 ha with e | e
    · rw [e]; exact h1
    · exact h2 a e
end
def nG (s : List Int) (g : G) : G × List Int := ({ g with args := (Qb1 gNum s g.args).1 }, (Qb1 gNum s g.args).2)
def G.nds (g : G) : Nat := ndsL g.args
theorem Qcv (s : List Int) (g : G) : (nG s g).2.length ≤ s.length + g.nds := by
  rw [nG, Qbo s g.args []]
  have := Zj s (X9 g.args)
  have := ZQ g.args
  simp only [G.nds]
  omega
theorem QgB (m : Nat) (g : G) (hn : g.nds ≤ 1000000) (h : AH) (s : List Int) (hm : m < h.length) (hs0 : s.length + g.nds ≤ 1000000) :
    Yd Tryz.prog 48 [.mp m, g.atom] (hs h m (mapB s)) fun o h' => o = .ret ((nG s g).1).atom ∧ h' = hs h m (mapB (nG s g).2) := by
  have f1 := fun x => Zr h m x
  have f2 := fun x L => QaP (h := h) (i := m) x L
  have f3 := fun x L k => Qen (h := h) (i := m) x L k
  have f4 := fun x y L => Qbk (h := h) (i := m) x y L
  have f5 := fun x y L k => Qcm (h := h) (i := m) x y L k
  have c := Qa6 T.av (.fn (.func 97) [.mp m] []) Qg6 Qe8 nT T.nds QgX g.args (by have := XK g.args; simp only [G.nds] at hn; omega) m (h ++ [AB.cells 66 2 [g.atom], AB.cells 66 2 [.agg [.v (.string { data := #[] }), .v (.slice none 0 0)]]]) (by rw [List.length_append]; omega) s (by rw [Qfd]; exact hs0) (Qb3 g.args hn m)
  rw [← Qej, ← Qej, ← QaE, Qag hm, Qag hm] at c
  refine Qh Tryz.func48 rfl Tryz.call48 Tryz.ntmps48 (congrArg Array.toList Tryz.results48) (by simp) ?_
  repeat (first | ((first | (with_reducible (first | refine Qa fun K E hK hE => ?_ | refine FunW.ret (FunW.call c) ?_))); simp -implicitDefEqProofs only [Qd, Qb, Qg, OpW, QR, aop, undef, AS.ev, Qc, QY, Qk, QD, QlK, Ql3, AV.Qk5, Qy, Xs, QM, XJ, QlX, QlY, QA, QP, QI, QlZ, ↓reduceIte, QlQ, QlR, Nat.reduceAdd, Nat.reduceLT, Nat.reduceLeDiff, Nat.reduceEqDiff, QlP, Qmb, Ql, QK, QL, Xj, Q0, hlen, happ, QlD, QlE, Ql7, Ql8, QlF, QlS, QlW, Ql5, Ql4, Ql6, QlO, QlV, QlM, QlU, QlH, ti44, ti66, YM, zi66, f1, f2, f3, f4, f5, XB, Y7]) | (with_reducible refine Qn ?_) | ((with_reducible refine hK _ ?_); clear hK))
  simp -implicitDefEqProofs only [Qk, Qy, QM, ↓reduceIte, QlQ, QlR, Nat.reduceAdd, Nat.reduceEqDiff, QlP, Qmb, QK, QL, QlD, QlE, QlJ, ti66, f3, QN, Qp, Qu, QlN]
  refine XC (Zk _ _) (.keep ?_) ?_
  · exact .agg _ (ZX _ (nG s g).1)
  · exact ⟨rfl, rfl⟩
theorem QfN (m : Nat) (g : G) (hn : g.nds ≤ 1000000) (h : AH) (s : List Int) (hm : m < h.length) (hs0 : s.length + g.nds ≤ 1000000) :
    Yd Tryz.prog 50 [.mp m, g.goal] (hs h m (mapB s)) fun o h' => o = .ret ((nG s g).1).goal ∧ h' = hs h m (mapB (nG s g).2) := by
  have f1 := fun x => Zr h m x
  have f2 := fun x L => QaP (h := h) (i := m) x L
  have f3 := fun x L k => Qen (h := h) (i := m) x L k
  have f4 := fun x y L => Qbk (h := h) (i := m) x y L
  have f5 := fun x y L k => Qcm (h := h) (i := m) x y L k
  have c := Qa6 T.av (.fn (.func 97) [.mp m] []) Qg6 Qe8 nT T.nds QgX g.args (by have := XK g.args; simp only [G.nds] at hn; omega) m (h ++ [AB.cells 53 3 [g.goal], AB.cells 53 3 [.agg [.i 0, .v (.string { data := #[] }), .v (.slice none 0 0)]]]) (by rw [List.length_append]; omega) s (by rw [Qfd]; exact hs0) (Qb3 g.args hn m)
  rw [← Qej, ← Qej, ← QaE, Qag hm, Qag hm] at c
  refine Qh Tryz.func50 rfl Tryz.call50 Tryz.ntmps50 (congrArg Array.toList Tryz.results50) (by simp) ?_
  repeat (first | ((first | (with_reducible (first | refine Qa fun K E hK hE => ?_ | refine FunW.ret (FunW.call c) ?_))); simp -implicitDefEqProofs only [Qd, Qb, Qg, OpW, QR, aop, undef, AS.ev, Qc, QY, Qk, QD, QlK, Ql3, AV.Qk5, Qy, Xs, QM, XJ, QlX, QlY, QC, QA, QP, QI, QlZ, ↓reduceIte, QlQ, QlR, Nat.reduceAdd, Nat.reduceLT, Nat.reduceLeDiff, Nat.reduceEqDiff, QlP, Qmb, Ql, QK, QL, Xj, Q0, hlen, happ, QlD, QlE, Ql7, Ql8, QlF, QlS, QlW, Ql5, Ql4, Ql6, QlO, QlV, QlM, QlU, QlH, ti44, ti53, Ya, zi53, f1, f2, f3, f4, f5, Q3, Yb]) | (with_reducible refine Qn ?_) | ((with_reducible refine hK _ ?_); clear hK))
  simp -implicitDefEqProofs only [Qk, Qy, QM, ↓reduceIte, QlQ, QlR, Nat.reduceAdd, Nat.reduceEqDiff, QlP, Qmb, QK, QL, QlD, QlE, QlJ, ti53, f3, QN, Qp, Qu, QlN]
  refine XC (Zk _ _) (.keep ?_) ?_
  · exact .agg _ (Qad _ (nG s g).1)
  · exact ⟨rfl, rfl⟩
end Go.Proofs.YtenheconhibonaaGreatDoor.Ab
set_option maxRecDepth 4000
namespace Go.Proofs.YtenheconhibonaaGreatDoor.Ab
open Go.Proofs
theorem Qap {X : Type} (g : List Int → X → X × List Int) (w : X → Nat) (hw : ∀ s x, (g s x).2.length ≤ s.length + w x) : ∀ (l : List X) (s : List Int), (Yw g s l).2.length ≤ s.length + (l.map w).sum
  | [], s => by simp [Yw]
  | x :: l, s => by
    rw [Yw, List.map_cons, List.sum_cons]
    have := Qap g w hw l (g s x).2
    have := hw s x
    simp only
    omega
def wG (l : List G) : Nat := (l.map G.nds).sum
theorem Qi9 : ∀ {l : List G} {g : G}, g ∈ l → g.nds ≤ wG l
  | x :: l, g, h => by
    simp only [wG, QlS, List.sum_cons]
    rcases List.mem_cons.1 h with rfl | h
    · omega
    · have := Qi9 h; simp only [wG] at this; omega
def numR (r : Rl) : Rl :=
  ⟨r.name, (Yw nG [] r.keep).1, (Yw nG (Yw nG [] r.keep).2 r.remove).1, (Yw nG (Yw nG (Yw nG [] r.keep).2 r.remove).2 r.guard).1,
    (Yw nG (Yw nG (Yw nG (Yw nG [] r.keep).2 r.remove).2 r.guard).2 r.body).1, (Yw nG (Yw nG (Yw nG (Yw nG [] r.keep).2 r.remove).2 r.guard).2 r.body).2.length⟩
theorem QhG (n : Nat) (r : Rl) : Below n r.av := by
  refine .agg _ fun a ha => ?_
  simp only [List.mem_cons, List.not_mem_nil, or_false] at ha
  rcases ha with rfl | rfl | rfl | rfl | rfl | rfl
  · exact .v _
  · exact Qae _ n 2 (ZX n) _
  · exact Qae _ n 2 (ZX n) _
  · exact Qae _ n 3 (Qad n) _
  · exact Qae _ n 3 (Qad n) _
  · exact .v _
theorem QbO (r : Rl) (h1 : r.keep.length ≤ 100000) (h2 : r.remove.length ≤ 100000) (h3 : r.guard.length ≤ 100000) (h4 : r.body.length ≤ 100000) (hw : wG r.keep + wG r.remove + wG r.guard + wG r.body ≤ 1000000) :
    Pure Tryz.prog 13 [r.av] (numR r).av := by
  intro h
  obtain ⟨s1, es1⟩ : ∃ s, s = (Yw nG [] r.keep).2 := ⟨_, rfl⟩
  obtain ⟨s2, es2⟩ : ∃ s, s = (Yw nG s1 r.remove).2 := ⟨_, rfl⟩
  obtain ⟨s3, es3⟩ : ∃ s, s = (Yw nG s2 r.guard).2 := ⟨_, rfl⟩
  obtain ⟨s4, es4⟩ : ∃ s, s = (Yw nG s3 r.body).2 := ⟨_, rfl⟩
  obtain ⟨l1, el1⟩ : ∃ s, s = (Yw nG [] r.keep).1 := ⟨_, rfl⟩
  obtain ⟨l2, el2⟩ : ∃ s, s = (Yw nG s1 r.remove).1 := ⟨_, rfl⟩
  obtain ⟨l3, el3⟩ : ∃ s, s = (Yw nG s2 r.guard).1 := ⟨_, rfl⟩
  obtain ⟨l4, el4⟩ : ∃ s, s = (Yw nG s3 r.body).1 := ⟨_, rfl⟩
  have en : numR r = ⟨r.name, l1, l2, l3, l4, s4.length⟩ := by rw [numR, ← es1, ← es2, ← es3, ← es4, ← el1, ← el2, ← el3, ← el4]
  have w1 : s1.length ≤ wG r.keep := by rw [es1]; have := Qap nG G.nds Qcv r.keep []; simpa [wG] using this
  have w2 : s2.length ≤ s1.length + wG r.remove := by rw [es2]; exact Qap nG G.nds Qcv r.remove s1
  have w3 : s3.length ≤ s2.length + wG r.guard := by rw [es3]; exact Qap nG G.nds Qcv r.guard s2
  have w4 : s4.length ≤ s3.length + wG r.body := by rw [es4]; exact Qap nG G.nds Qcv r.body s3
  obtain ⟨zv, hz⟩ : ∃ z, z = AB.cells 25 6 [.agg [.v (.string { data := #[] }), .v (.slice none 0 0), .v (.slice none 0 0), .v (.slice none 0 0), .v (.slice none 0 0), .v (.int .i64 0)]] := ⟨_, rfl⟩
  have e : ∀ x y z, hs (h ++ [x, y, AB.dead]) (h.length + 2) z = h ++ [x, y, z] := fun x y z => by simp [hs]
  have hlt : ∀ x y : AB, h.length + 2 < (h ++ [x, y, AB.dead]).length := fun x y => by simp
  have cA := fun (l : List G) (hl : l.length ≤ 100000) (s : List Int) (hs0 : s.length + wG l ≤ 1000000) x => QgA G.atom (.fn (.func 48) [.mp (h.length + 2)] []) Qfw ZX nG G.nds Qcv l (by omega) (h.length + 2) (h ++ [x, zv, AB.dead]) (hlt _ _) s hs0
    (fun g hg h s hm hs1 => FunW.fn (QgB _ g (by have := Qi9 hg; omega) h s hm hs1))
  have cG := fun (l : List G) (hl : l.length ≤ 100000) (s : List Int) (hs0 : s.length + wG l ≤ 1000000) x => Qgs G.goal (.fn (.func 50) [.mp (h.length + 2)] []) QdG Qad nG G.nds Qcv l (by omega) (h.length + 2) (h ++ [x, zv, AB.dead]) (hlt _ _) s hs0
    (fun g hg h s hm hs1 => FunW.fn (QfN _ g (by have := Qi9 hg; omega) h s hm hs1))
  have c1 := cA r.keep h1 [] (by simp only [QlR]; omega) (.cells 25 6 [.agg [.v (.string r.name), .sl 2 (vs G.atom r.keep) none, .sl 2 (vs G.atom r.remove) none, .sl 3 (vs G.goal r.guard) none, .sl 3 (vs G.goal r.body) none, .v (.int .i64 r.vars)]])
  have c2 := cA r.remove h2 s1 (by omega) (.cells 25 6 [.agg [.v (.string r.name), .sl 2 (vs G.atom l1) none, .sl 2 (vs G.atom r.remove) none, .sl 3 (vs G.goal r.guard) none, .sl 3 (vs G.goal r.body) none, .v (.int .i64 r.vars)]])
  have c3 := cG r.guard h3 s2 (by omega) (.cells 25 6 [.agg [.v (.string r.name), .sl 2 (vs G.atom l1) none, .sl 2 (vs G.atom l2) none, .sl 3 (vs G.goal r.guard) none, .sl 3 (vs G.goal r.body) none, .v (.int .i64 r.vars)]])
  have c4 := cG r.body h4 s3 (by omega) (.cells 25 6 [.agg [.v (.string r.name), .sl 2 (vs G.atom l1) none, .sl 2 (vs G.atom l2) none, .sl 3 (vs G.goal l3) none, .sl 3 (vs G.goal r.body) none, .v (.int .i64 r.vars)]])
  rw [e, e, ← es1, ← el1, show mapB [] = .map [] from rfl, hz] at c1
  rw [e, e, ← es2, ← el2, hz] at c2
  rw [e, e, ← es3, ← el3, hz] at c3
  rw [e, e, ← es4, ← el4, hz] at c4
  have mb : mapB s4 = .map (imap (ZU s4)) := rfl
  rw [en]
  refine Qh Tryz.func13 rfl Tryz.call13 Tryz.ntmps13 (congrArg Array.toList Tryz.results13) (by simp) ?_
  rw [show r.av = AV.agg [.v (.string r.name), .sl 2 (vs G.atom r.keep) none, .sl 2 (vs G.atom r.remove) none, .sl 3 (vs G.goal r.guard) none, .sl 3 (vs G.goal r.body) none, .v (.int .i64 r.vars)] from rfl]
  repeat (first | ((first | (with_reducible (first | refine Qa fun K E hK hE => ?_ | refine FunW.ret (FunW.call c1) ?_ | refine FunW.ret (FunW.call c2) ?_ | refine FunW.ret (FunW.call c3) ?_ | refine FunW.ret (FunW.call c4) ?_))); simp -implicitDefEqProofs only [Qd, Qb, Qg, OpW, QR, aop, undef, AS.ev, Qc, QY, Qk, QD, QlK, AV.Qk5, Qy, Q6, Xs, QM, Xy, XJ, QlX, QlY, QC, QA, QP, QI, QlZ, ↓reduceIte, QlQ, QlR, Nat.reduceAdd, Nat.reduceLT, Nat.reduceLeDiff, Nat.reduceEqDiff, QlP, Qmb, Ql, QK, QL, Xj, Q0, aLen, QO, hget, Yg, hset, hlen, happ, QlD, QlE, Ql7, Ql8, QlF, Qmi, QlS, QlW, Ql5, Ql4, Ql6, QlO, QlV, QlM, QlU, goInt, QlH, ti3, ti22, ti23, ti25, X7, X6, XR, XP, Zo, zi25, un92, mb, Qcd]) | (with_reducible refine Qn ?_) | ((with_reducible refine hK _ ?_); clear hK))
  simp -implicitDefEqProofs only [Qk, Qy, QM, ↓reduceIte, QlQ, QlR, Nat.reduceAdd, Nat.reduceEqDiff, QlP, Qmb, QK, QL, hget, QlD, QlE, QlJ, ti25, QN, Qp, Qu, QlN]
  exact Qe (htake _ _) (.keep (QhG _ ⟨r.name, l1, l2, l3, l4, s4.length⟩)) ⟨rfl, rfl⟩
end Go.Proofs.YtenheconhibonaaGreatDoor.Ab
set_option maxRecDepth 4000
namespace Go.Proofs.YtenheconhibonaaGreatDoor.Ab
open Go.Proofs
def Qai : List G → Bool
  | [g] => g.op == 1
  | _ => false
theorem QbK {l : List G} (h : l.length = 1) (h0 : 0 < l.length) : Qai l = (l[0].op == 1) := by
  match l, h with
  | [g], _ => rfl
def preR (r : Rl) : Bool := (Yr r.name || Yv r.name) && (decide (0 < r.keep.length + r.remove.length ∧ r.keep.length + r.remove.length ≤ 4) && (decide (r.guard.length ≤ 12 ∧ r.body.length ≤ 12) && !Qai r.body))
def Ys (r : Rl) : Bool := preR r && (r.keep.all Q8 && (r.remove.all Q8 && (r.guard.all Q4 && r.body.all Q4)))
theorem Qe5 (r : Rl) (h1 : r.keep.length ≤ 100000) (h2 : r.remove.length ≤ 100000) (h3 : r.guard.length ≤ 100000) (h4 : r.body.length ≤ 100000) :
    Pure Tryz.prog 33 [r.av] (.b (Ys r)) := by
  intro h
  have er : r.av = AV.agg [.v (.string r.name), .sl 2 (vs G.atom r.keep) none, .sl 2 (vs G.atom r.remove) none, .sl 3 (vs G.goal r.guard) none, .sl 3 (vs G.goal r.body) none, .v (.int .i64 r.vars)] := rfl
  have cn : Pure Tryz.prog 55 [.v (.string r.name)] (.b (Yv r.name)) := Qbl r.name
  have hadd : IntKind.i64.wrap ((r.keep.length : Int) + r.remove.length) = ((r.keep.length + r.remove.length : Nat) : Int) := by rw [Yh (by omega)]; omega
  obtain ⟨n, en⟩ : ∃ n : Nat, n = r.keep.length + r.remove.length := ⟨_, rfl⟩
  rw [← en] at hadd
  refine Qh Tryz.func33 rfl Tryz.call33 Tryz.ntmps33 (congrArg Array.toList Tryz.results33) (by simp) ?_
  rw [er]
  iterate 4 (try (first | (((with_reducible refine Qa fun K E hK hE => ?_)); simp -implicitDefEqProofs only [Qd, Qb, Qg, OpW, aop, undef, AS.ev, Qc, Qr, Qk, QD, QlK, AV.Qk5, Qy, QlX, QlY, QC, QA, QI, QlZ, ↓reduceIte, QlQ, QlR, Nat.reduceAdd, Nat.reduceLT, Nat.reduceEqDiff, QlP, Ql, QK, QL, aBin, aLen, QO, QlD, QlE, QlF, Xf, goInt, ti22, un22, X7, X6, QG, hadd]) | ((with_reducible refine hK _ ?_); clear hK)))
  refine Xv (fun s => preR r = true ∧ s.tm 1 = .ptr h.length 0 0 ∧ s.h = h ++ [.cells 25 6 [.agg [.v (.string r.name), .sl 2 (vs G.atom r.keep) none, .sl 2 (vs G.atom r.remove) none, .sl 3 (vs G.goal r.guard) none, .sl 3 (vs G.goal r.body) none, .v (.int .i64 r.vars)]]]) ?_ ?_
  · rintro ⟨tm, hp⟩ ⟨hpr, t1, hh⟩
    dsimp only at t1 hh
    subst hh
    have a1 := fun h => Qgn G.atom Q8 (.fn (.func 80) [] []) Qfw r.keep (by omega) h (fun g _ h => FunW.call (ZL g h))
    have a2 := fun h => Qgn G.atom Q8 (.fn (.func 80) [] []) Qfw r.remove (by omega) h (fun g _ h => FunW.call (ZL g h))
    have a3 := fun h => QdO G.goal Q4 (.fn (.func 61) [] []) QdG r.guard (by omega) h (fun g _ h => FunW.call (ZJ g h))
    have a4 := fun h => QdO G.goal Q4 (.fn (.func 61) [] []) QdG r.body (by omega) h (fun g _ h => FunW.call (ZJ g h))
    obtain ⟨b1, w1⟩ : ∃ b, b = (r.keep.all Q8) := ⟨_, rfl⟩
    rw [← w1] at a1
    cases b1
    · have v1 : (r.keep.all Q8) = false := w1.symm
      have R : Ys r = false := by rw [Ys, hpr, v1]; rfl
      repeat (first | ((first | (with_reducible (first | refine Qa fun K E hK hE => ?_ | refine FunW.ret (FunW.call (a1 _)) ?_))); simp -implicitDefEqProofs only [Qd, Qb, Qg, OpW, QR, aop, undef, AS.ev, Qc, Qr, Qk, Qy, ↓reduceIte, Nat.reduceLT, Nat.reduceEqDiff, QlP, Ql, QK, QL, QO, QlD, QlE, QlF, QlI, QlG, QlS, QlW, QlH, beq_true, ti22, X7, t1]) | (with_reducible refine Qn ?_) | ((with_reducible refine hK _ ?_); clear hK))
      simp only [QN, Qp, Qu, upd, ↓reduceIte, QlJ, QlN]; first | refine Qe (htake _ _) (.keep (.v _)) ⟨by rw [R], rfl⟩ | refine Qe List.take_length (.keep (.v _)) ⟨by rw [R], rfl⟩
    have v1 : (r.keep.all Q8) = true := w1.symm
    obtain ⟨b2, w2⟩ : ∃ b, b = (r.remove.all Q8) := ⟨_, rfl⟩
    rw [← w2] at a2
    cases b2
    · have v2 : (r.remove.all Q8) = false := w2.symm
      have R : Ys r = false := by rw [Ys, hpr, v1, v2]; rfl
      repeat (first | ((first | (with_reducible (first | refine Qa fun K E hK hE => ?_ | refine FunW.ret (FunW.call (a1 _)) ?_ | refine FunW.ret (FunW.call (a2 _)) ?_))); simp -implicitDefEqProofs only [Qd, Qb, Qg, OpW, QR, aop, undef, AS.ev, Qc, Qr, Qk, Qy, ↓reduceIte, Nat.reduceLT, Nat.reduceEqDiff, QlP, Ql, QK, QL, QO, QlD, QlE, QlF, QlI, QlG, QlS, QlW, QlL, QlH, beq_true, ti22, X7, X6, t1]) | (with_reducible refine Qn ?_) | ((with_reducible refine hK _ ?_); clear hK))
      simp only [QN, Qp, Qu, upd, ↓reduceIte, QlJ, QlN]; first | refine Qe (htake _ _) (.keep (.v _)) ⟨by rw [R], rfl⟩ | refine Qe List.take_length (.keep (.v _)) ⟨by rw [R], rfl⟩
    have v2 : (r.remove.all Q8) = true := w2.symm
    obtain ⟨b3, w3⟩ : ∃ b, b = (r.guard.all Q4) := ⟨_, rfl⟩
    rw [← w3] at a3
    cases b3
    · have v3 : (r.guard.all Q4) = false := w3.symm
      have R : Ys r = false := by rw [Ys, hpr, v1, v2, v3]; rfl
      repeat (first | ((first | (with_reducible (first | refine Qa fun K E hK hE => ?_ | refine FunW.ret (FunW.call (a1 _)) ?_ | refine FunW.ret (FunW.call (a2 _)) ?_ | refine FunW.ret (FunW.call (a3 _)) ?_))); simp -implicitDefEqProofs only [Qd, Qb, Qg, OpW, QR, aop, undef, AS.ev, Qc, Qr, Qk, Qy, ↓reduceIte, Nat.reduceLT, Nat.reduceEqDiff, QlP, Ql, QK, QL, QO, QlD, QlE, QlF, QlI, QlG, QlS, QlW, QlL, QlH, beq_true, ti22, ti23, X7, X6, XR, t1]) | (with_reducible refine Qn ?_) | ((with_reducible refine hK _ ?_); clear hK))
      simp only [QN, Qp, Qu, upd, ↓reduceIte, QlJ, QlN]; first | refine Qe (htake _ _) (.keep (.v _)) ⟨by rw [R], rfl⟩ | refine Qe List.take_length (.keep (.v _)) ⟨by rw [R], rfl⟩
    have v3 : (r.guard.all Q4) = true := w3.symm
    obtain ⟨b4, w4⟩ : ∃ b, b = (r.body.all Q4) := ⟨_, rfl⟩
    rw [← w4] at a4
    cases b4
    · have v4 : (r.body.all Q4) = false := w4.symm
      have R : Ys r = false := by rw [Ys, hpr, v1, v2, v3, v4]; rfl
      repeat (first | ((first | (with_reducible (first | refine Qa fun K E hK hE => ?_ | refine FunW.ret (FunW.call (a1 _)) ?_ | refine FunW.ret (FunW.call (a2 _)) ?_ | refine FunW.ret (FunW.call (a3 _)) ?_ | refine FunW.ret (FunW.call (a4 _)) ?_))); simp -implicitDefEqProofs only [Qd, Qb, Qg, OpW, QR, aop, AS.ev, Qc, Qk, Qy, ↓reduceIte, Nat.reduceLT, Nat.reduceEqDiff, QlP, Ql, QK, QL, QO, QlD, QlE, QlF, QlI, QlG, QlS, QlW, QlL, ti22, ti23, X7, X6, XR, XP, t1]) | (with_reducible refine Qn ?_) | ((with_reducible refine hK _ ?_); clear hK))
      simp only [QN, Qp, Qu, upd, ↓reduceIte, QlJ, QlN]; first | refine Qe (htake _ _) (.keep (.v _)) ⟨by rw [R], rfl⟩ | refine Qe List.take_length (.keep (.v _)) ⟨by rw [R], rfl⟩
    have v4 : (r.body.all Q4) = true := w4.symm
    have R : Ys r = true := by rw [Ys, hpr, v1, v2, v3, v4]; rfl
    repeat (first | ((first | (with_reducible (first | refine Qa fun K E hK hE => ?_ | refine FunW.ret (FunW.call (a1 _)) ?_ | refine FunW.ret (FunW.call (a2 _)) ?_ | refine FunW.ret (FunW.call (a3 _)) ?_ | refine FunW.ret (FunW.call (a4 _)) ?_))); simp -implicitDefEqProofs only [Qd, Qb, Qg, OpW, QR, aop, AS.ev, Qc, Qk, Qy, ↓reduceIte, Nat.reduceLT, Nat.reduceEqDiff, QlP, Ql, QK, QL, QO, QlD, QlE, QlF, QlI, QlG, QlS, QlW, QlL, ti22, ti23, X7, X6, XR, XP, t1]) | (with_reducible refine Qn ?_) | ((with_reducible refine hK _ ?_); clear hK))
    simp only [QN, Qp, Qu, upd, ↓reduceIte, QlJ, QlN]; first | refine Qe (htake _ _) (.keep (.v _)) ⟨by rw [R], rfl⟩ | refine Qe List.take_length (.keep (.v _)) ⟨by rw [R], rfl⟩
  · have ee : (r.name.toList == ({ data := #[] } : ByteArray).toList) = Yr r.name := rfl
    have hgg : ∀ k : Nat, ((r.guard.length : Int) > 12) = (12 < r.guard.length) := fun _ => by rw [eq_iff_iff]; omega
    cases ce : Yr r.name
    · rw [ce] at ee
      cases cr : Yv r.name
      · have R : Ys r = false := by rw [Ys, preR, ce, cr]; rfl
        rw [cr] at cn
        repeat (first | ((first | (with_reducible (first | refine Qa fun K E hK hE => ?_ | refine Qs cn ?_))); simp -implicitDefEqProofs only [Qd, Qb, Qg, OpW, QR, aop, AS.ev, Qc, Qr, QF, Qk, Qy, Ql1, ↓reduceIte, Nat.reduceLT, Nat.reduceEqDiff, Ql2, Ql, QK, QL, aBin, QO, QlD, QlE, QlF, QlI, QlG, QlS, QlW, Xb, Yc, QlL, ti9, XT, ee]) | (with_reducible (first | refine Qi fun K hK => ?_ | refine Qm ?_ | refine Qn ?_ | refine Qv ?_ | refine Qf ?_ | refine QB ?_ | refine QH ?_)) | ((with_reducible refine hK _ ?_); clear hK) | (refine Qj rfl ?_; simp only [↓reduceIte]))
        simp only [QN, Qp, Qu, upd, ↓reduceIte, QlJ, QlN]; first | refine Qe (htake _ _) (.keep (.v _)) ⟨by rw [R], rfl⟩ | refine Qe List.take_length (.keep (.v _)) ⟨by rw [R], rfl⟩
      · have hn : (Yr r.name || Yv r.name) = true := by rw [ce, cr]; rfl
        rw [cr] at cn
        by_cases n0 : n = 0
        · have R : Ys r = false := by rw [Ys, preR, hn, decide_eq_false (by omega)]; rfl
          have m0 : ((n : Int) == 0) = true := by simp [n0]
          repeat (first | ((first | (with_reducible (first | refine Qa fun K E hK hE => ?_ | refine Qs cn ?_))); simp -implicitDefEqProofs only [Qd, Qb, Qg, OpW, QR, aop, AS.ev, Qc, Qq, Qr, QF, Qk, Qy, Ql0, Ql1, ↓reduceIte, Nat.reduceLT, Nat.reduceEqDiff, Ql2, Ql, QK, QL, aBin, QO, QlD, QlE, QlF, QlI, QlG, QlS, QlW, QS, Xb, Yc, QlL, ti9, XT, ee, m0]) | (with_reducible (first | refine Qi fun K hK => ?_ | refine Qm ?_ | refine Qn ?_ | refine Qv ?_ | refine Qf ?_ | refine QB ?_ | refine QH ?_)) | ((with_reducible refine hK _ ?_); clear hK) | (refine Qj rfl ?_; simp only [↓reduceIte, QlH]))
          simp only [QN, Qp, Qu, upd, ↓reduceIte, QlJ, QlN]; first | refine Qe (htake _ _) (.keep (.v _)) ⟨by rw [R], rfl⟩ | refine Qe List.take_length (.keep (.v _)) ⟨by rw [R], rfl⟩
        have m0 : ((n : Int) == 0) = false := by simp; omega
        by_cases n4 : n > 4
        · have R : Ys r = false := by rw [Ys, preR, hn, decide_eq_false (by omega)]; rfl
          have m4 : (n : Int) > 4 := by omega
          repeat (first | ((first | (with_reducible (first | refine Qa fun K E hK hE => ?_ | refine Qo fun K E hK hE => ?_ | refine Qs cn ?_))); simp -implicitDefEqProofs only [Qd, Qb, Qg, OpW, QR, aop, AS.ev, Qc, Qq, Qr, QF, Qk, Qy, Ql0, Ql1, ↓reduceIte, Nat.reduceLT, Nat.reduceEqDiff, Ql2, Ql, QK, QL, aBin, QO, QlD, QlE, QlF, QlI, QlG, QlS, QlW, QS, Q1, Xb, Yc, Ql9, QlL, ti9, XT, ee, m0, m4]) | (with_reducible (first | refine Qi fun K hK => ?_ | refine Qm ?_ | refine Qn ?_ | refine Qf ?_ | refine QB ?_ | refine QH ?_)) | ((with_reducible refine hK _ ?_); clear hK) | (refine Qj rfl ?_; simp only [↓reduceIte, QlH]))
          simp only [QN, Qp, Qu, upd, ↓reduceIte, QlJ, QlN]; first | refine Qe (htake _ _) (.keep (.v _)) ⟨by rw [R], rfl⟩ | refine Qe List.take_length (.keep (.v _)) ⟨by rw [R], rfl⟩
        have m4 : ¬ (n : Int) > 4 := by omega
        have hh : decide (0 < r.keep.length + r.remove.length ∧ r.keep.length + r.remove.length ≤ 4) = true := decide_eq_true (by omega)
        by_cases g0 : r.guard.length > 12
        · have R : Ys r = false := by rw [Ys, preR, hn, hh, decide_eq_false (by omega)]; rfl
          have mg : (r.guard.length : Int) > 12 := by omega
          repeat (first | ((first | (with_reducible (first | refine Qa fun K E hK hE => ?_ | refine Qo fun K E hK hE => ?_ | refine Qs cn ?_))); simp -implicitDefEqProofs only [Qd, Qb, Qg, OpW, QR, aop, AS.ev, Qc, Qq, Qr, QF, Qk, Qy, Ql0, Ql1, ↓reduceIte, Nat.reduceLT, Nat.reduceEqDiff, QlP, Ql2, Ql, QK, QL, aBin, aLen, QO, QlD, QlE, QlF, QlI, QlG, QlS, QlW, QS, Q1, Xb, Yc, goInt, Ql9, Qma, QlL, ti9, ti23, un23, XT, XR, ee, m0, m4, mg, QG]) | (with_reducible (first | refine Qi fun K hK => ?_ | refine Qm ?_ | refine Qn ?_ | refine Qv ?_ | refine Qf ?_ | refine QB ?_ | refine QH ?_)) | ((with_reducible refine hK _ ?_); clear hK) | (refine Qj rfl ?_; simp only [↓reduceIte, QlH]))
          simp only [QN, Qp, Qu, upd, ↓reduceIte, QlJ, QlN]; first | refine Qe (htake _ _) (.keep (.v _)) ⟨by rw [R], rfl⟩ | refine Qe List.take_length (.keep (.v _)) ⟨by rw [R], rfl⟩
        have mg : ¬ (r.guard.length : Int) > 12 := by omega
        by_cases b0 : r.body.length > 12
        · have R : Ys r = false := by rw [Ys, preR, hn, hh, decide_eq_false (by omega)]; rfl
          have mb : (r.body.length : Int) > 12 := by omega
          repeat (first | ((first | (with_reducible (first | refine Qa fun K E hK hE => ?_ | refine Qo fun K E hK hE => ?_ | refine Qs cn ?_))); simp -implicitDefEqProofs only [Qd, Qb, Qg, OpW, QR, aop, AS.ev, Qc, Qq, Qr, QF, Qk, Qy, Ql0, Ql1, ↓reduceIte, Nat.reduceLT, Nat.reduceEqDiff, QlP, Ql2, Ql, QK, QL, aBin, aLen, QO, QlD, QlE, QlF, QlI, QlG, QlS, QlW, QS, Q1, Xb, Yc, goInt, Ql9, Qma, QlL, ti9, ti23, un23, XT, XR, XP, ee, m0, m4, mg, mb, QG]) | (with_reducible (first | refine Qi fun K hK => ?_ | refine Qm ?_ | refine Qn ?_ | refine Qf ?_ | refine QB ?_ | refine QH ?_)) | ((with_reducible refine hK _ ?_); clear hK) | (refine Qj rfl ?_; simp only [↓reduceIte, QlH]))
          simp only [QN, Qp, Qu, upd, ↓reduceIte, QlJ, QlN]; first | refine Qe (htake _ _) (.keep (.v _)) ⟨by rw [R], rfl⟩ | refine Qe List.take_length (.keep (.v _)) ⟨by rw [R], rfl⟩
        have mb : ¬ (r.body.length : Int) > 12 := by omega
        have hgb : decide (r.guard.length ≤ 12 ∧ r.body.length ≤ 12) = true := decide_eq_true (by omega)
        by_cases b1 : r.body.length = 1
        · have hb0 : 0 < r.body.length := by omega
          have m1 : ((r.body.length : Int) == 1) = true := by simp; omega
          have m2 : (0 : Int) < r.body.length := by omega
          have hg0 := YN G.goal hb0
          have hone := QbK b1 hb0
          cases co : (r.body[0].op == 1)
          · have P : preR r = true := by rw [preR, hn, hh, hgb, hone, co]; rfl
            repeat (first | ((first | (with_reducible (first | refine Qa fun K E hK hE => ?_ | refine Qo fun K E hK hE => ?_ | refine Qs cn ?_))); simp -implicitDefEqProofs only [Qd, Qb, Qg, OpW, QR, aop, AS.ev, Qc, Qq, QF, Qk, Qy, Ql0, Ql1, ↓reduceIte, Nat.reduceLT, Nat.reduceEqDiff, QlP, Ql2, Qmb, Ql, QK, QL, QJ, aBin, aLen, QO, QlD, QlE, QlF, QlI, QlG, QlS, QlW, QS, Q1, Xb, Yc, goInt, Qma, QlL, Int.toNat_zero, ti3, ti9, ti23, ei23, un23, XT, XR, XP, XG, Qmq, ee, m0, m4, mg, mb, m1, m2, hg0, co, QG, Q3]) | (with_reducible (first | refine Qi fun K hK => ?_ | refine Qm ?_ | refine Qv ?_ | refine Qf ?_ | refine Qw ?_)) | ((with_reducible refine hK _ ?_); clear hK) | (refine Qj rfl ?_; simp only [↓reduceIte, QlH]))
            exact ⟨P, rfl, rfl⟩
          · have R : Ys r = false := by rw [Ys, preR, hn, hh, hgb, hone, co]; rfl
            repeat (first | ((first | (with_reducible (first | refine Qa fun K E hK hE => ?_ | refine Qo fun K E hK hE => ?_ | refine Qs cn ?_))); simp -implicitDefEqProofs only [Qd, Qb, Qg, OpW, QR, aop, AS.ev, Qc, Qq, Qr, QF, Qk, Qy, Ql0, Ql1, ↓reduceIte, Nat.reduceLT, Nat.reduceEqDiff, QlP, Ql2, Qmb, Ql, QK, QL, QJ, aBin, aLen, QO, QlD, QlE, QlF, QlI, QlG, QlS, QlW, QS, Q1, Xb, Yc, goInt, Qma, QlL, Int.toNat_zero, ti3, ti9, ti23, ei23, un23, XT, XR, XP, XG, Qmq, ee, m0, m4, mg, mb, m1, m2, hg0, co, QG, Q3]) | (with_reducible (first | refine Qi fun K hK => ?_ | refine Qm ?_ | refine Qn ?_ | refine Qf ?_ | refine QB ?_ | refine QH ?_)) | ((with_reducible refine hK _ ?_); clear hK) | (refine Qj rfl ?_; simp only [↓reduceIte, QlH]))
            simp only [QN, Qp, Qu, upd, ↓reduceIte, QlJ, QlN]; first | refine Qe (htake _ _) (.keep (.v _)) ⟨by rw [R], rfl⟩ | refine Qe List.take_length (.keep (.v _)) ⟨by rw [R], rfl⟩
        · have m1 : ((r.body.length : Int) == 1) = false := by simp; omega
          have hone : Qai r.body = false := by
            match hq : r.body, b1 with
            | [], _ => rfl
            | [g], b1 => exact absurd rfl b1
            | _ :: _ :: _, _ => rfl
          have P : preR r = true := by rw [preR, hn, hh, hgb, hone]; rfl
          repeat (first | ((first | (with_reducible (first | refine Qa fun K E hK hE => ?_ | refine Qo fun K E hK hE => ?_ | refine Qs cn ?_))); simp -implicitDefEqProofs only [Qd, Qb, Qg, OpW, QR, aop, undef, AS.ev, Qc, Qq, Qr, QF, Qk, Qy, Ql0, Ql1, ↓reduceIte, Nat.reduceLT, Nat.reduceEqDiff, QlP, Ql2, Ql, QK, QL, aBin, aLen, QO, QlD, QlE, QlF, QlI, QlG, QlS, QlW, QS, Q1, Xb, Yc, goInt, Qma, QlL, QlH, beq_true, ti9, ti23, un23, XT, XR, XP, ee, m0, m4, mg, mb, m1, QG]) | (with_reducible (first | refine Qi fun K hK => ?_ | refine Qm ?_ | refine Qv ?_ | refine Qf ?_ | refine Qw ?_)) | ((with_reducible refine hK _ ?_); clear hK) | (refine Qj rfl ?_; simp only [↓reduceIte, QlH]))
          exact ⟨P, rfl, rfl⟩
    · rw [ce] at ee
      have hn : (Yr r.name || Yv r.name) = true := by rw [ce]; rfl
      by_cases n0 : n = 0
      · have R : Ys r = false := by rw [Ys, preR, hn, decide_eq_false (by omega)]; rfl
        have m0 : ((n : Int) == 0) = true := by simp [n0]
        repeat (first | (((with_reducible refine Qa fun K E hK hE => ?_)); simp -implicitDefEqProofs only [Qd, Qb, Qg, OpW, aop, undef, AS.ev, Qc, Qq, Qr, QF, Qk, Qy, Ql0, ↓reduceIte, Nat.reduceLT, Nat.reduceEqDiff, Ql2, Ql, QK, QL, aBin, QO, QlD, QlE, QlF, QlI, QlG, QS, Yc, QlH, beq_true, ti9, XT, ee, m0]) | (with_reducible (first | refine Qi fun K hK => ?_ | refine Qm ?_ | refine Qn ?_ | refine Qv ?_ | refine Qf ?_ | refine QB ?_ | refine QH ?_)) | ((with_reducible refine hK _ ?_); clear hK) | (refine Qj rfl ?_; simp only [↓reduceIte, QlH]))
        simp only [QN, Qp, Qu, upd, ↓reduceIte, QlJ, QlN]; first | refine Qe (htake _ _) (.keep (.v _)) ⟨by rw [R], rfl⟩ | refine Qe List.take_length (.keep (.v _)) ⟨by rw [R], rfl⟩
      have m0 : ((n : Int) == 0) = false := by simp; omega
      by_cases n4 : n > 4
      · have R : Ys r = false := by rw [Ys, preR, hn, decide_eq_false (by omega)]; rfl
        have m4 : (n : Int) > 4 := by omega
        repeat (first | ((first | (with_reducible (first | refine Qa fun K E hK hE => ?_ | refine Qo fun K E hK hE => ?_))); simp -implicitDefEqProofs only [Qd, Qb, Qg, OpW, aop, undef, AS.ev, Qc, Qq, Qr, QF, Qk, Qy, Ql0, ↓reduceIte, Nat.reduceLT, Nat.reduceEqDiff, Ql2, Ql, QK, QL, aBin, QO, QlD, QlE, QlF, QlI, QlG, QS, Q1, Yc, Ql9, QlH, beq_true, ti9, XT, ee, m0, m4]) | (with_reducible (first | refine Qi fun K hK => ?_ | refine Qm ?_ | refine Qn ?_ | refine Qf ?_ | refine QB ?_ | refine QH ?_)) | ((with_reducible refine hK _ ?_); clear hK) | (refine Qj rfl ?_; simp only [↓reduceIte, QlH]))
        simp only [QN, Qp, Qu, upd, ↓reduceIte, QlJ, QlN]; first | refine Qe (htake _ _) (.keep (.v _)) ⟨by rw [R], rfl⟩ | refine Qe List.take_length (.keep (.v _)) ⟨by rw [R], rfl⟩
      have m4 : ¬ (n : Int) > 4 := by omega
      have hh : decide (0 < r.keep.length + r.remove.length ∧ r.keep.length + r.remove.length ≤ 4) = true := decide_eq_true (by omega)
      by_cases g0 : r.guard.length > 12
      · have R : Ys r = false := by rw [Ys, preR, hn, hh, decide_eq_false (by omega)]; rfl
        have mg : (r.guard.length : Int) > 12 := by omega
        repeat (first | ((first | (with_reducible (first | refine Qa fun K E hK hE => ?_ | refine Qo fun K E hK hE => ?_))); simp -implicitDefEqProofs only [Qd, Qb, Qg, OpW, aop, undef, AS.ev, Qc, Qq, Qr, QF, Qk, Qy, Ql0, ↓reduceIte, Nat.reduceLT, Nat.reduceEqDiff, QlP, Ql2, Ql, QK, QL, aBin, aLen, QO, QlD, QlE, QlF, QlI, QlG, QS, Q1, Yc, goInt, Ql9, Qma, QlH, beq_true, ti9, ti23, un23, XT, XR, ee, m0, m4, mg, QG]) | (with_reducible (first | refine Qi fun K hK => ?_ | refine Qm ?_ | refine Qn ?_ | refine Qv ?_ | refine Qf ?_ | refine QB ?_ | refine QH ?_)) | ((with_reducible refine hK _ ?_); clear hK) | (refine Qj rfl ?_; simp only [↓reduceIte, QlH]))
        simp only [QN, Qp, Qu, upd, ↓reduceIte, QlJ, QlN]; first | refine Qe (htake _ _) (.keep (.v _)) ⟨by rw [R], rfl⟩ | refine Qe List.take_length (.keep (.v _)) ⟨by rw [R], rfl⟩
      have mg : ¬ (r.guard.length : Int) > 12 := by omega
      by_cases b0 : r.body.length > 12
      · have R : Ys r = false := by rw [Ys, preR, hn, hh, decide_eq_false (by omega)]; rfl
        have mb : (r.body.length : Int) > 12 := by omega
        repeat (first | ((first | (with_reducible (first | refine Qa fun K E hK hE => ?_ | refine Qo fun K E hK hE => ?_))); simp -implicitDefEqProofs only [Qd, Qb, Qg, OpW, aop, undef, AS.ev, Qc, Qq, Qr, QF, Qk, Qy, Ql0, ↓reduceIte, Nat.reduceLT, Nat.reduceEqDiff, QlP, Ql2, Ql, QK, QL, aBin, aLen, QO, QlD, QlE, QlF, QlI, QlG, QS, Q1, Yc, goInt, Ql9, Qma, QlH, beq_true, ti9, ti23, un23, XT, XR, XP, ee, m0, m4, mg, mb, QG]) | (with_reducible (first | refine Qi fun K hK => ?_ | refine Qm ?_ | refine Qn ?_ | refine Qf ?_ | refine QB ?_ | refine QH ?_)) | ((with_reducible refine hK _ ?_); clear hK) | (refine Qj rfl ?_; simp only [↓reduceIte, QlH]))
        simp only [QN, Qp, Qu, upd, ↓reduceIte, QlJ, QlN]; first | refine Qe (htake _ _) (.keep (.v _)) ⟨by rw [R], rfl⟩ | refine Qe List.take_length (.keep (.v _)) ⟨by rw [R], rfl⟩
      have mb : ¬ (r.body.length : Int) > 12 := by omega
      have hgb : decide (r.guard.length ≤ 12 ∧ r.body.length ≤ 12) = true := decide_eq_true (by omega)
      by_cases b1 : r.body.length = 1
      · have hb0 : 0 < r.body.length := by omega
        have m1 : ((r.body.length : Int) == 1) = true := by simp; omega
        have m2 : (0 : Int) < r.body.length := by omega
        have hg0 := YN G.goal hb0
        have hone := QbK b1 hb0
        cases co : (r.body[0].op == 1)
        · have P : preR r = true := by rw [preR, hn, hh, hgb, hone, co]; rfl
          repeat (first | ((first | (with_reducible (first | refine Qa fun K E hK hE => ?_ | refine Qo fun K E hK hE => ?_))); simp -implicitDefEqProofs only [Qd, Qb, Qg, OpW, aop, undef, AS.ev, Qc, Qq, Qr, QF, Qk, Qy, Ql0, ↓reduceIte, Nat.reduceLT, Nat.reduceEqDiff, QlP, Ql2, Qmb, Ql, QK, QL, QJ, aBin, aLen, QO, QlD, QlE, QlF, QlI, QlG, QS, Q1, Yc, goInt, Qma, QlL, Int.toNat_zero, QlH, beq_true, ti3, ti9, ti23, ei23, un23, XT, XR, XP, XG, Qmq, ee, m0, m4, mg, mb, m1, m2, hg0, co, QG, Q3]) | (with_reducible (first | refine Qi fun K hK => ?_ | refine Qm ?_ | refine Qv ?_ | refine Qf ?_ | refine Qw ?_)) | ((with_reducible refine hK _ ?_); clear hK) | (refine Qj rfl ?_; simp only [↓reduceIte, QlH]))
          exact ⟨P, rfl, rfl⟩
        · have R : Ys r = false := by rw [Ys, preR, hn, hh, hgb, hone, co]; rfl
          repeat (first | ((first | (with_reducible (first | refine Qa fun K E hK hE => ?_ | refine Qo fun K E hK hE => ?_))); simp -implicitDefEqProofs only [Qd, Qb, Qg, OpW, aop, undef, AS.ev, Qc, Qq, Qr, QF, Qk, Qy, Ql0, ↓reduceIte, Nat.reduceLT, Nat.reduceEqDiff, QlP, Ql2, Qmb, Ql, QK, QL, QJ, aBin, aLen, QO, QlD, QlE, QlF, QlI, QlG, QS, Q1, Yc, goInt, Qma, QlL, Int.toNat_zero, QlH, beq_true, ti3, ti9, ti23, ei23, un23, XT, XR, XP, XG, Qmq, ee, m0, m4, mg, mb, m1, m2, hg0, co, QG, Q3]) | (with_reducible (first | refine Qi fun K hK => ?_ | refine Qm ?_ | refine Qn ?_ | refine Qf ?_ | refine QB ?_ | refine QH ?_)) | ((with_reducible refine hK _ ?_); clear hK) | (refine Qj rfl ?_; simp only [↓reduceIte, QlH]))
          simp only [QN, Qp, Qu, upd, ↓reduceIte, QlJ, QlN]; first | refine Qe (htake _ _) (.keep (.v _)) ⟨by rw [R], rfl⟩ | refine Qe List.take_length (.keep (.v _)) ⟨by rw [R], rfl⟩
      · have m1 : ((r.body.length : Int) == 1) = false := by simp; omega
        have hone : Qai r.body = false := by
          match hq : r.body, b1 with
          | [], _ => rfl
          | [g], b1 => exact absurd rfl b1
          | _ :: _ :: _, _ => rfl
        have P : preR r = true := by rw [preR, hn, hh, hgb, hone]; rfl
        repeat (first | ((first | (with_reducible (first | refine Qa fun K E hK hE => ?_ | refine Qo fun K E hK hE => ?_))); simp -implicitDefEqProofs only [Qd, Qb, Qg, OpW, aop, undef, AS.ev, Qc, Qq, Qr, QF, Qk, Qy, Ql0, ↓reduceIte, Nat.reduceLT, Nat.reduceEqDiff, QlP, Ql2, Ql, QK, QL, aBin, aLen, QO, QlD, QlE, QlF, QlI, QlG, QS, Q1, Yc, goInt, Qma, QlH, beq_true, ti9, ti23, un23, XT, XR, XP, ee, m0, m4, mg, mb, m1, QG]) | (with_reducible (first | refine Qi fun K hK => ?_ | refine Qm ?_ | refine Qv ?_ | refine Qf ?_ | refine Qw ?_)) | ((with_reducible refine hK _ ?_); clear hK) | (refine Qj rfl ?_; simp only [↓reduceIte, QlH]))
        exact ⟨P, rfl, rfl⟩
end Go.Proofs.YtenheconhibonaaGreatDoor.Ab
set_option maxRecDepth 4000
namespace Go.Proofs.YtenheconhibonaaGreatDoor.Ab
open Go.Proofs
theorem QkW {l : List ByteArray} (h : ∀ x ∈ l, x.size ≤ 15000) : (l.map fun x => x.size + 2).sum ≤ 15002 * l.length := by
  induction l with
  | nil => simp
  | cons x l ih =>
    rw [List.map_cons, List.sum_cons, List.length_cons]
    have := h x (by simp)
    have := ih fun y hy => h y (by simp [hy])
    omega
theorem Qaw {X : Type} (tx : X → ByteArray) (l : List X) (h : ∀ x ∈ l, 1 ≤ (tx x).size ∧ (tx x).size ≤ 15000) : (XV true (l.map tx)).size ≤ 15002 * l.length ∧ (0 < l.length → 0 < (XV true (l.map tx)).size) := by
  have h1 := Qc8 (l.map tx) true
  have h2 := QkW (l := l.map tx) fun x hx => by obtain ⟨y, hy, rfl⟩ := List.mem_map.1 hx; exact (h y hy).2
  rw [List.length_map] at h2
  refine ⟨by omega, fun h0 => ?_⟩
  match l, h0 with
  | x :: l, _ =>
    have := (h x (by simp)).1
    rw [List.map_cons, Qer true _ (tx x) (l.map tx) rfl]
    omega
theorem Qhm {g : G} (h : Q8 g = true) : 1 ≤ (txtA g).size ∧ (txtA g).size ≤ 15000 := by
  rw [txtA, if_pos h]; exact ⟨(QbR h).2.2.1, (QbR h).2.2.2⟩
theorem QgJ {g : G} (h : Q4 g = true) : 1 ≤ (txtG g).size ∧ (txtG g).size ≤ 15000 := by
  rw [txtG, if_pos h]; exact ⟨(QbT h).2.2.1, (QbT h).2.2.2.1⟩
def jA (l : List G) : ByteArray := XV true (l.map txtA)
def jG (l : List G) : ByteArray := XV true (l.map txtG)
theorem QdU {l : List G} (hv : l.all Q8 = true) : (jA l).size ≤ 15002 * l.length := (Qaw txtA l fun x hx => Qhm (List.all_eq_true.1 hv x hx)).1
theorem Qds {l : List G} (hv : l.all Q4 = true) : (jG l).size ≤ 15002 * l.length := (Qaw txtG l fun x hx => QgJ (List.all_eq_true.1 hv x hx)).1
theorem QgK (l : List G) (hv : l.all Q8 = true) (hl : l.length ≤ 100000) (h : AH) (hG : XO h) :
    Yd Tryz.prog 36 [.sl 2 (vs G.atom l) none, .fn (.func 37) [] []] h fun o h' => o = .ret (.v (.string (jA l))) ∧ h' = h := by
  cases l with
  | nil => exact Qhl _ h
  | cons x l =>
    have hj := Qaw txtA (x :: l) fun x hx => Qhm (List.all_eq_true.1 hv x hx)
    refine Qgy G.atom txtA _ Qfw (x :: l) (by simp) (by omega) h hG (fun g hg h hG => FunW.call (QeH g ?_ h hG)) (hj.2 (by simp)) (by omega)
    have := (QbR (List.all_eq_true.1 hv g hg)).2.1
    omega
theorem Qg1 (l : List G) (hv : l.all Q4 = true) (hl : l.length ≤ 100000) (h : AH) (hG : XO h) :
    Yd Tryz.prog 38 [.sl 3 (vs G.goal l) none, .fn (.func 39) [] []] h fun o h' => o = .ret (.v (.string (jG l))) ∧ h' = h := by
  cases l with
  | nil => exact QgZ _ h
  | cons x l =>
    have hj := Qaw txtG (x :: l) fun x hx => QgJ (List.all_eq_true.1 hv x hx)
    refine QfK G.goal txtG _ QdG (x :: l) (by simp) (by omega) h hG (fun g hg h hG => FunW.call (QeQ g ?_ h hG)) (hj.2 (by simp)) (by omega)
    have := (QbT (List.all_eq_true.1 hv g hg)).2.1
    omega
abbrev atB : ByteArray := { data := #[32, 64, 32] }
abbrev impB : ByteArray := { data := #[32, 61, 61, 62, 32] }
abbrev bsB : ByteArray := { data := #[32, 92, 32] }
abbrev simB : ByteArray := { data := #[32, 60, 61, 62, 32] }
abbrev barB : ByteArray := { data := #[32, 124, 32] }
abbrev dotB : ByteArray := { data := #[46] }
def t1R (x : Rl) : ByteArray := if Yr x.name = true then .empty else x.name ++ atB
def t3R (x : Rl) (t : ByteArray) : ByteArray := if x.remove = [] then t ++ impB else (if x.keep = [] then t else t ++ bsB) ++ (jA x.remove ++ simB)
def t4R (x : Rl) (t : ByteArray) : ByteArray := if x.guard = [] then t else t ++ (jG x.guard ++ barB)
def t5R (x : Rl) (t : ByteArray) : ByteArray := if x.body = [] then t ++ QeJ else t
def t2R (x : Rl) : ByteArray := t1R x ++ jA x.keep
def Qcx (x : Rl) : ByteArray := t5R x (t4R x (t3R x (t2R x))) ++ (jG x.body ++ dotB)
def Z9 (r : Rl) : ByteArray := if Ys (numR r) = true then ZV (Qcx (numR r)) else { data := #[] }
theorem Qb8 (r : Rl) (h1 : r.keep.length ≤ 100000) (h2 : r.remove.length ≤ 100000) (h3 : r.guard.length ≤ 100000) (h4 : r.body.length ≤ 100000) (hw : wG r.keep + wG r.remove + wG r.guard + wG r.body ≤ 1000000)
    (h : AH) (hG : XO h) : Yd Tryz.prog 10 [r.av] h fun o h' => o = .ret (.v (.string (Z9 r))) ∧ h' = h := by
  have cn := QbO r h1 h2 h3 h4 hw
  obtain ⟨x, ex⟩ : ∃ x, x = numR r := ⟨_, rfl⟩
  rw [← ex] at cn
  have l1 : x.keep.length ≤ 100000 := by rw [ex]; simp only [numR, ZM]; exact h1
  have l2 : x.remove.length ≤ 100000 := by rw [ex]; simp only [numR, ZM]; exact h2
  have l3 : x.guard.length ≤ 100000 := by rw [ex]; simp only [numR, ZM]; exact h3
  have l4 : x.body.length ≤ 100000 := by rw [ex]; simp only [numR, ZM]; exact h4
  have cr := Qe5 x l1 l2 l3 l4
  have exv : x.av = AV.agg [.v (.string x.name), .sl 2 (vs G.atom x.keep) none, .sl 2 (vs G.atom x.remove) none, .sl 3 (vs G.goal x.guard) none, .sl 3 (vs G.goal x.body) none, .v (.int .i64 x.vars)] := rfl
  have erv : r.av = AV.agg [.v (.string r.name), .sl 2 (vs G.atom r.keep) none, .sl 2 (vs G.atom r.remove) none, .sl 3 (vs G.goal r.guard) none, .sl 3 (vs G.goal r.body) none, .v (.int .i64 r.vars)] := rfl
  rw [exv, erv] at cn
  rw [exv] at cr
  rw [Z9, ← ex, erv]
  cases hr : Ys x with
  | false =>
    rw [hr] at cr
    rw [if_neg (by decide)]
    refine Qh Tryz.func10 rfl Tryz.call10 Tryz.ntmps10 (congrArg Array.toList Tryz.results10) (by simp) ?_
    repeat (first | ((first | (with_reducible (first | refine Qa fun K E hK hE => ?_ | refine Qs cn ?_ | refine Qs cr ?_))); simp -implicitDefEqProofs only [Qd, Qb, Qg, OpW, QR, aop, undef, AS.ev, Qc, QY, QF, Qk, QD, QlK, AV.Qk5, Qy, QM, QlX, QlY, QC, QA, QI, QlZ, Ql1, ↓reduceIte, QlQ, QlR, Nat.reduceAdd, Nat.reduceLT, Nat.reduceEqDiff, QlP, Qmb, QK, QL, Xj, Q0, QO, Yg, QlD, Ql7, QlF, QlS, QlW, Xb, ti25]) | (with_reducible (first | refine Qi fun K hK => ?_ | refine Qn ?_ | refine QB ?_)) | ((with_reducible refine hK _ ?_); clear hK) | (refine Qj rfl ?_; simp only [↓reduceIte]))
    simp only [QN, Qp, Qu, upd, ↓reduceIte, QlJ, QlN]; first | refine Qe (htake _ _) (.keep (.v _)) ⟨rfl, rfl⟩ | refine Qe List.take_length (.keep (.v _)) ⟨rfl, rfl⟩
  | true =>
    rw [hr] at cr
    rw [if_pos rfl]
    have hr' := hr
    simp only [Ys, Bool.and_eq_true] at hr'
    obtain ⟨hpre, v1, v2, v3, v4⟩ := hr'
    have hnx : x.name.size ≤ 140737488 := by
      rw [preR, Bool.and_eq_true, Bool.or_eq_true] at hpre
      rcases hpre.1 with e | e
      · have := Qaz e; omega
      · have := (Y1 e).2; omega
    have k1 := QdU v1
    have k2 := QdU v2
    have k3 := Qds v3
    have k4 := Qds v4
    obtain ⟨H0, eH⟩ : ∃ H : AH, H = h ++ [AB.cells 25 6 [.agg [.v (.string x.name), .sl 2 (vs G.atom x.keep) none, .sl 2 (vs G.atom x.remove) none, .sl 3 (vs G.goal x.guard) none, .sl 3 (vs G.goal x.body) none, .v (.int .i64 x.vars)]]] := ⟨_, rfl⟩
    have hl0 : H0.length = h.length + 1 := by rw [eH]; simp
    have hi : h.length + 1 < (H0 ++ [AB.dead, AB.dead]).length := by rw [List.length_append, hl0]; simp
    have hj : h.length + 2 < (H0 ++ [AB.dead, AB.dead]).length := by rw [List.length_append, hl0]; simp
    have hij : h.length + 1 ≠ h.length + 2 := by omega
    have g0 : ∀ u tx, (HS (H0 ++ [AB.dead, AB.dead]) (h.length + 1) (h.length + 2) u tx)[h.length]? = some (AB.cells 25 6 [.agg [.v (.string x.name), .sl 2 (vs G.atom x.keep) none, .sl 2 (vs G.atom x.remove) none, .sl 3 (vs G.goal x.guard) none, .sl 3 (vs G.goal x.body) none, .v (.int .i64 x.vars)]]) := fun u tx => by
      rw [HS, YI _ _ (by omega) (by omega), eH]; simp
    have hGs : ∀ u tx, XO (HS (H0 ++ [AB.dead, AB.dead]) (h.length + 1) (h.length + 2) u tx) := fun u tx => by
      have := QfF (h := H0) (by rw [eH]; exact HasG.app hG _) [AB.dead, AB.dead] rfl u tx
      rwa [hl0] at this
    have put := fun (l : List ByteArray) (hl : 0 < l.length) (hl2 : l.length ≤ 1000000) (u : Bool) (tx : ByteArray) (hs : tx.size + (catB l).size ≤ 140737488355328) => FunW.fn (first := []) (args := [.sl 1 (QfE l) none]) (cap := [.ptr (h.length + 1) 0 0]) (QjS hi hj hij l hl hl2 u tx hs)
    have put1 := fun (a : ByteArray) (u : Bool) (tx : ByteArray) (hs : tx.size + a.size ≤ 140737488355328) =>
      show FunW Tryz.prog (.fn (.func 34) [] [.ptr (h.length + 1) 0 0]) [.sl 1 [.v (.string a)] none] (HS (H0 ++ [AB.dead, AB.dead]) (h.length + 1) (h.length + 2) u tx) (fun o h' => o = .ret (.tup []) ∧ h' = HS (H0 ++ [AB.dead, AB.dead]) (h.length + 1) (h.length + 2) true (tx ++ a)) from by
        have := put [a] (by simp) (by simp) u tx (by simp only [catB, ByteArray.append_empty]; exact hs)
        simp only [catB, ByteArray.append_empty] at this
        exact this
    have put2 := fun (a b : ByteArray) (u : Bool) (tx : ByteArray) (hs : tx.size + a.size + b.size ≤ 140737488355328) =>
      show FunW Tryz.prog (.fn (.func 34) [] [.ptr (h.length + 1) 0 0]) [.sl 1 [.v (.string a), .v (.string b)] none] (HS (H0 ++ [AB.dead, AB.dead]) (h.length + 1) (h.length + 2) u tx) (fun o h' => o = .ret (.tup []) ∧ h' = HS (H0 ++ [AB.dead, AB.dead]) (h.length + 1) (h.length + 2) true (tx ++ (a ++ b))) from by
        have := put [a, b] (by simp) (by simp) u tx (by simp only [catB, ByteArray.append_empty, Qt]; omega)
        simp only [catB, ByteArray.append_empty] at this
        exact this
    have s1 : (t1R x).size ≤ 140737492 := by rw [t1R]; split
                                             · decide
                                             · rw [Qt]; have : atB.size = 3 := rfl; omega
    have s2 : (t2R x).size ≤ 2000000000 := by rw [t2R, Qt]; omega
    have s3 : (t3R x (t2R x)).size ≤ 4000000000 := by
      have i1 : impB.size = 5 := rfl
      have i2 : bsB.size = 3 := rfl
      have i3 : simB.size = 5 := rfl
      rw [t3R]; split
      · rw [Qt]; omega
      · split <;> simp only [Qt] <;> omega
    have s4 : (t4R x (t3R x (t2R x))).size ≤ 6000000000 := by
      have i1 : barB.size = 3 := rfl
      rw [t4R]; split
      · omega
      · simp only [Qt]; omega
    have s5 : (t5R x (t4R x (t3R x (t2R x)))).size ≤ 7000000000 := by
      have i1 : QeJ.size = 4 := rfl
      rw [t5R]; split
      · simp only [Qt]; omega
      · omega
    have sa : atB.size = 3 := rfl
    have si : impB.size = 5 := rfl
    have sb : bsB.size = 3 := rfl
    have ss : simB.size = 5 := rfl
    have sr : barB.size = 3 := rfl
    have sd : dotB.size = 1 := rfl
    have st : QeJ.size = 4 := rfl
    obtain ⟨J, eJ⟩ : ∃ J : Bool → ByteArray → AS → Prop, J = fun u tx s => s.tm 1 = .ptr h.length 0 0 ∧ s.tm 3 = .ptr (h.length + 1) 0 0 ∧ s.tm 4 = .fn (.func 34) [] [.ptr (h.length + 1) 0 0] ∧ s.h = HS (H0 ++ [AB.dead, AB.dead]) (h.length + 1) (h.length + 2) u tx := ⟨_, rfl⟩
    refine Qh Tryz.func10 rfl Tryz.call10 Tryz.ntmps10 (congrArg Array.toList Tryz.results10) (by simp) ?_
    iterate 17 (try (first | ((first | (with_reducible (first | refine Qa fun K E hK hE => ?_ | refine Qs cn ?_ | refine Qs cr ?_))); simp -implicitDefEqProofs only [Qd, Qb, Qg, OpW, QR, aop, undef, AS.ev, Qc, QY, QF, Qk, QD, QlK, AV.Qk5, Qy, QM, QlX, QlY, QC, QA, QP, Xc, QI, QlZ, Ql0, ↓reduceIte, QlQ, QlR, Nat.reduceAdd, Nat.reduceLT, Nat.reduceEqDiff, QlP, Qmb, QK, QL, Xj, Q0, QO, Yg, hlen, happ, QlD, Ql7, QlF, QlS, QlW, Ql5, Ql4, Xb, ti25, zi74]) | (with_reducible (first | refine Qi fun K hK => ?_ | refine Qv ?_ | refine Qf ?_)) | ((with_reducible refine hK _ ?_); clear hK) | (refine Qj rfl ?_; simp only [↓reduceIte, QlH])))
    refine ZS (h.length + 1) 74 5 (.pointer none) (by simp) ?_
    have e0 : ((h ++ [AB.cells 25 6 [.agg [.v (.string x.name), .sl 2 (vs G.atom x.keep) none, .sl 2 (vs G.atom x.remove) none, .sl 3 (vs G.goal x.guard) none, .sl 3 (vs G.goal x.body) none, .v (.int .i64 x.vars)]], AB.cells 74 2 [.agg [.v (.pointer none), .v (.slice none 0 0)]]]) ++ [AB.grow 5 1 0]).set (h.length + 1)
        (AB.cells 74 2 [.agg [.v (.pointer none), .sl 1 [] (some (h ++ [AB.cells 25 6 [.agg [.v (.string x.name), .sl 2 (vs G.atom x.keep) none, .sl 2 (vs G.atom x.remove) none, .sl 3 (vs G.goal x.guard) none, .sl 3 (vs G.goal x.body) none, .v (.int .i64 x.vars)]], AB.cells 74 2 [.agg [.v (.pointer none), .v (.slice none 0 0)]]]).length)]]) = HS (H0 ++ [AB.dead, AB.dead]) (h.length + 1) (h.length + 2) false .empty := by
      rw [eH]; simp [HS, hs2, bw]; rfl
    rw [e0]
    refine Xv (J (!Yr x.name) (t1R x)) ?_ ?_
    rotate_left
    · have ee : (x.name.toList == ({ data := #[] } : ByteArray).toList) = Yr x.name := rfl
      cases ce : Yr x.name
      · rw [ce] at ee
        have p := put2 x.name atB false .empty (by have : ByteArray.empty.size = 0 := rfl; omega)
        rw [ByteArray.empty_append] at p
        repeat (first | ((first | (with_reducible (first | refine Qa fun K E hK hE => ?_ | refine Qo fun K E hK hE => ?_ | refine FunW.ret p ?_))); simp -implicitDefEqProofs only [Qd, Qb, Qg, OpW, QR, aop, undef, AS.ev, Qc, QF, Qk, QD, AV.Qk5, Qy, Q6, QlX, QlY, QA, QlZ, Ql1, ↓reduceIte, QlQ, QlR, Nat.reduceLT, Nat.reduceLeDiff, Nat.reduceEqDiff, Nat.reduceMul, QlP, Ql2, Qmb, Ql, QK, QL, aBin, Q7, QlD, QlF, QlS, QlW, Yc, QlL, rng2, Xa, Nat.reducePow, ti9, zi9, XT, ei48, g0, ee]) | (with_reducible refine Qf ?_) | ((with_reducible refine hK _ ?_); clear hK) | (refine Qj rfl ?_; simp only [↓reduceIte]))
        rw [eJ, t1R, ce]
        exact ⟨rfl, rfl, rfl, rfl⟩
      · rw [ce] at ee
        repeat (first | (((with_reducible refine Qa fun K E hK hE => ?_)); simp -implicitDefEqProofs only [Qd, Qb, Qg, OpW, aop, AS.ev, Qc, QF, Qk, Qy, Ql0, ↓reduceIte, Nat.reduceLT, Nat.reduceEqDiff, Ql2, Ql, QK, QL, aBin, QlD, QlF, Yc, ti9, XT, g0, ee]) | (with_reducible (first | refine Qv ?_ | refine Qf ?_)) | ((with_reducible refine hK _ ?_); clear hK) | (refine Qj rfl ?_; simp only [↓reduceIte, QlH]))
        rw [eJ, t1R, ce]
        exact ⟨rfl, rfl, rfl, rfl⟩
    rintro ⟨tm, hp⟩ hJ
    rw [eJ] at hJ
    obtain ⟨t1, t3, t4, hh⟩ := hJ
    dsimp only at t1 t3 t4 hh
    subst hh
    refine Xv (J true (t2R x)) ?_ ?_
    rotate_left
    · have c := QgK x.keep v1 l1 _ (hGs (!Yr x.name) (t1R x))
      have p := put1 (jA x.keep) (!Yr x.name) (t1R x) (by omega)
      repeat (first | ((first | (with_reducible (first | refine Qo fun K E hK hE => ?_ | refine FunW.ret (FunW.call c) ?_ | refine FunW.ret p ?_))); simp -implicitDefEqProofs only [Qd, Qb, Qg, OpW, QR, aop, AS.ev, Qc, Qk, AV.Qk5, Qy, Q6, QlX, QlY, QA, QlZ, ↓reduceIte, QlQ, QlR, Nat.reduceLT, Nat.reduceLeDiff, Nat.reduceEqDiff, Nat.reduceMul, QlP, Qmb, Ql, QK, QL, Q7, QlD, QlE, QlF, QlS, QlW, QlL, rng1, Xa, Nat.reducePow, zi9, ti22, X7, ei48, g0, t1, t4]) | (with_reducible refine Qf ?_) | ((with_reducible refine hK _ ?_); clear hK))
      rw [eJ, t2R]
      exact ⟨t1, t3, t4, rfl⟩
    clear t1 t3 t4
    rintro ⟨tm, hp⟩ hJ
    rw [eJ] at hJ
    obtain ⟨t1, t3, t4, hh⟩ := hJ
    dsimp only at t1 t3 t4 hh
    subst hh
    refine Xv (J true (t3R x (t2R x))) ?_ ?_
    rotate_left
    · by_cases q0 : x.remove = []
      · have z0 : ((x.remove.length : Int) == 0) = true := by rw [q0]; rfl
        have p := put1 impB true (t2R x) (by omega)
        repeat (first | ((first | (with_reducible (first | refine Qa fun K E hK hE => ?_ | refine FunW.ret p ?_))); simp -implicitDefEqProofs only [Qd, Qb, Qg, OpW, QR, aop, AS.ev, Qc, Qq, QF, Qk, AV.Qk5, Qy, Q6, QlX, QlY, QA, QlZ, ↓reduceIte, QlQ, QlR, Nat.reduceLT, Nat.reduceLeDiff, Nat.reduceEqDiff, Nat.reduceMul, QlP, Qmb, Ql, QK, QL, aBin, Q7, aLen, QlD, QlE, QlF, QlS, QlW, QS, goInt, QlL, rng1, Xa, Nat.reducePow, zi9, ti22, un22, X6, ei48, g0, t1, t4, z0, QG]) | (with_reducible (first | refine Qi fun K hK => ?_ | refine Qm ?_ | refine Q2 ?_ | refine Qf ?_ | refine QU ?_ | refine QV ?_ | refine QaK rfl ?_)) | ((with_reducible refine hK _ ?_); clear hK) | (clear hK; clear hK; (with_reducible refine hK _ ?_); clear hK) | (refine Qj rfl ?_; simp only [↓reduceIte]))
        rw [eJ, t3R, if_pos q0]
        exact ⟨t1, t3, t4, rfl⟩
      · have hq : x.remove.length ≠ 0 := fun e => q0 (List.length_eq_zero_iff.1 e)
        have z0 : ((x.remove.length : Int) == 0) = false := by simp; omega
        by_cases q1 : x.keep = []
        · have z1 : ¬ (x.keep.length : Int) > 0 := by rw [q1]; decide
          have c := QgK x.remove v2 l2 _ (hGs true (t2R x))
          have p := put2 (jA x.remove) simB true (t2R x) (by omega)
          repeat (first | ((first | (with_reducible (first | refine Qa fun K E hK hE => ?_ | refine FunW.ret (FunW.call c) ?_ | refine FunW.ret p ?_))); simp -implicitDefEqProofs only [Qd, Qb, Qg, OpW, QR, aop, AS.ev, Qc, Qq, QF, Qk, AV.Qk5, Qy, Q6, QlX, QlY, QA, QlZ, ↓reduceIte, QlQ, QlR, Nat.reduceLT, Nat.reduceLeDiff, Nat.reduceEqDiff, Nat.reduceMul, QlP, Qmb, Ql, QK, QL, aBin, Q7, aLen, QlD, QlE, QlF, QlS, QlW, QS, Q1, goInt, Qma, QlL, rng2, Xa, Nat.reducePow, zi9, ti22, un22, X7, X6, ei48, g0, t1, t4, z0, z1, QG]) | (with_reducible (first | refine Qi fun K hK => ?_ | refine Qm ?_ | refine Qv ?_ | refine Q2 ?_ | refine Qf ?_ | refine QU ?_ | refine QV ?_ | refine QaK rfl ?_)) | ((with_reducible refine hK _ ?_); clear hK) | (clear hK; clear hK; (with_reducible refine hK _ ?_); clear hK) | (refine Qj rfl ?_; simp only [↓reduceIte, QlH]))
          rw [eJ, t3R, if_neg q0, if_pos q1]
          exact ⟨t1, t3, t4, rfl⟩
        · have hq1 : x.keep.length ≠ 0 := fun e => q1 (List.length_eq_zero_iff.1 e)
          have z1 : (x.keep.length : Int) > 0 := by omega
          have p1 := put1 bsB true (t2R x) (by omega)
          have c := QgK x.remove v2 l2 _ (hGs true (t2R x ++ bsB))
          have p := put2 (jA x.remove) simB true (t2R x ++ bsB) (by rw [Qt]; omega)
          repeat (first | ((first | (with_reducible (first | refine Qa fun K E hK hE => ?_ | refine Qo fun K E hK hE => ?_ | refine FunW.ret (FunW.call c) ?_ | refine FunW.ret p ?_ | refine FunW.ret p1 ?_))); simp -implicitDefEqProofs only [Qd, Qb, Qg, OpW, QR, aop, AS.ev, Qc, Qq, QF, Qk, AV.Qk5, Qy, Q6, QlX, QlY, QA, QlZ, ↓reduceIte, QlQ, QlR, Nat.reduceLT, Nat.reduceLeDiff, Nat.reduceEqDiff, Nat.reduceMul, QlP, Qmb, Ql, QK, QL, aBin, Q7, aLen, QlD, QlE, QlF, QlS, QlW, QS, Q1, goInt, Ql9, QlL, rng1, rng2, Xa, Nat.reducePow, zi9, ti22, un22, X7, X6, ei48, g0, t1, t4, z0, z1, QG]) | (with_reducible (first | refine Qi fun K hK => ?_ | refine Qm ?_ | refine Qv ?_ | refine Q2 ?_ | refine Qf ?_ | refine QU ?_ | refine Qw ?_ | refine QV ?_ | refine QaK rfl ?_)) | ((with_reducible refine hK _ ?_); clear hK) | (clear hK; clear hK; (with_reducible refine hK _ ?_); clear hK) | (refine Qj rfl ?_; simp only [↓reduceIte, QlH]))
          rw [eJ, t3R, if_neg q0, if_neg q1]
          exact ⟨t1, t3, t4, rfl⟩
    clear t1 t3 t4
    rintro ⟨tm, hp⟩ hJ
    rw [eJ] at hJ
    obtain ⟨t1, t3, t4, hh⟩ := hJ
    dsimp only at t1 t3 t4 hh
    subst hh
    refine Xv (J true (t4R x (t3R x (t2R x)))) ?_ ?_
    rotate_left
    · by_cases q0 : x.guard = []
      · have z0 : ¬ (x.guard.length : Int) > 0 := by rw [q0]; decide
        repeat (first | (((with_reducible refine Qa fun K E hK hE => ?_)); simp -implicitDefEqProofs only [Qd, Qb, Qg, OpW, aop, AS.ev, Qc, Qq, Qk, Qy, ↓reduceIte, Nat.reduceLT, QlP, Ql, QK, QL, aBin, aLen, QlD, QlE, QlF, Q1, goInt, Qma, ti23, un23, XR, g0, t1, z0, QG]) | (with_reducible (first | refine Qv ?_ | refine Qf ?_)) | ((with_reducible refine hK _ ?_); clear hK) | (refine Qj rfl ?_; simp only [↓reduceIte, QlH]))
        rw [eJ, t4R, if_pos q0]
        exact ⟨t1, t3, t4, rfl⟩
      · have hq : x.guard.length ≠ 0 := fun e => q0 (List.length_eq_zero_iff.1 e)
        have z0 : (x.guard.length : Int) > 0 := by omega
        have c := Qg1 x.guard v3 l3 _ (hGs true (t3R x (t2R x)))
        have p := put2 (jG x.guard) barB true (t3R x (t2R x)) (by omega)
        repeat (first | ((first | (with_reducible (first | refine Qa fun K E hK hE => ?_ | refine Qo fun K E hK hE => ?_ | refine FunW.ret (FunW.call c) ?_ | refine FunW.ret p ?_))); simp -implicitDefEqProofs only [Qd, Qb, Qg, OpW, QR, aop, AS.ev, Qc, Qq, QF, Qk, AV.Qk5, Qy, Q6, QlX, QlY, QA, QlZ, ↓reduceIte, QlQ, QlR, Nat.reduceLT, Nat.reduceLeDiff, Nat.reduceEqDiff, Nat.reduceMul, QlP, Qmb, Ql, QK, QL, aBin, Q7, aLen, QlD, QlE, QlF, QlS, QlW, Q1, goInt, Ql9, QlL, rng2, Xa, Nat.reducePow, zi9, ti23, un23, XR, ei48, g0, t1, t4, z0, QG]) | (with_reducible refine Qf ?_) | ((with_reducible refine hK _ ?_); clear hK) | (refine Qj rfl ?_; simp only [↓reduceIte]))
        rw [eJ, t4R, if_neg q0]
        exact ⟨t1, t3, t4, rfl⟩
    clear t1 t3 t4
    rintro ⟨tm, hp⟩ hJ
    rw [eJ] at hJ
    obtain ⟨t1, t3, t4, hh⟩ := hJ
    dsimp only at t1 t3 t4 hh
    subst hh
    refine Xv (J true (t5R x (t4R x (t3R x (t2R x))))) ?_ ?_
    rotate_left
    · by_cases q0 : x.body = []
      · have z0 : ((x.body.length : Int) == 0) = true := by rw [q0]; rfl
        have p := put1 QeJ true (t4R x (t3R x (t2R x))) (by omega)
        repeat (first | ((first | (with_reducible (first | refine Qa fun K E hK hE => ?_ | refine Qo fun K E hK hE => ?_ | refine FunW.ret p ?_))); simp -implicitDefEqProofs only [Qd, Qb, Qg, OpW, QR, aop, AS.ev, Qc, Qq, QF, Qk, AV.Qk5, Qy, Q6, QlX, QlY, QA, QlZ, ↓reduceIte, QlQ, QlR, Nat.reduceLT, Nat.reduceLeDiff, Nat.reduceEqDiff, Nat.reduceMul, QlP, Qmb, Ql, QK, QL, aBin, Q7, aLen, QlD, QlE, QlF, QlS, QlW, QS, goInt, QlL, rng1, Xa, Nat.reducePow, zi9, ti23, un23, XP, ei48, g0, t1, t4, z0, QG]) | (with_reducible refine Qf ?_) | ((with_reducible refine hK _ ?_); clear hK) | (refine Qj rfl ?_; simp only [↓reduceIte]))
        rw [eJ, t5R, if_pos q0]
        exact ⟨t1, t3, t4, rfl⟩
      · have hq : x.body.length ≠ 0 := fun e => q0 (List.length_eq_zero_iff.1 e)
        have z0 : ((x.body.length : Int) == 0) = false := by simp; omega
        repeat (first | (((with_reducible refine Qa fun K E hK hE => ?_)); simp -implicitDefEqProofs only [Qd, Qb, Qg, OpW, aop, AS.ev, Qc, Qq, Qk, Qy, ↓reduceIte, Nat.reduceLT, QlP, Ql, QK, QL, aBin, aLen, QlD, QlE, QlF, QS, goInt, ti23, un23, XP, g0, t1, z0, QG]) | (with_reducible (first | refine Qv ?_ | refine Qf ?_)) | ((with_reducible refine hK _ ?_); clear hK) | (refine Qj rfl ?_; simp only [↓reduceIte, QlH]))
        rw [eJ, t5R, if_neg q0]
        exact ⟨t1, t3, t4, rfl⟩
    clear t1 t3 t4
    rintro ⟨tm, hp⟩ hJ
    rw [eJ] at hJ
    obtain ⟨t1, t3, t4, hh⟩ := hJ
    dsimp only at t1 t3 t4 hh
    subst hh
    have c := Qg1 x.body v4 l4 _ (hGs true (t5R x (t4R x (t3R x (t2R x)))))
    have p := put2 (jG x.body) dotB true (t5R x (t4R x (t3R x (t2R x)))) (by omega)
    have sz : (Qcx x).size ≤ 9000000000 ∧ 0 < (Qcx x).size := by rw [Qcx, Qt, Qt]; omega
    have c2 := Qbr (ty := 74) (i := h.length + 1) (j := h.length + 2) hij (Qcx x) sz.2 (by omega) (H0 ++ [AB.dead, AB.dead]) hi hj
    have e2 : hs2 (H0 ++ [AB.dead, AB.dead]) (h.length + 1) (bw 74 (h.length + 1) (h.length + 2) true (Qcx x)) (h.length + 2) .gone = h ++ [AB.cells 25 6 [.agg [.v (.string x.name), .sl 2 (vs G.atom x.keep) none, .sl 2 (vs G.atom x.remove) none, .sl 3 (vs G.goal x.guard) none, .sl 3 (vs G.goal x.body) none, .v (.int .i64 x.vars)]], bw 74 (h.length + 1) (h.length + 2) true (Qcx x), AB.gone] := by
      rw [eH]; simp [hs2]
    rw [e2, ← HS] at c2
    rw [← Qcx] at p
    have c3 := Qbu (Qcx x)
    repeat (first | ((first | (with_reducible (first | refine Qa fun K E hK hE => ?_ | refine FunW.ret (FunW.call c) ?_ | refine FunW.ret p ?_ | refine FunW.ret (FunW.call c2) ?_ | refine Qs c3 ?_))); simp -implicitDefEqProofs only [Qd, Qb, Qg, OpW, QR, aop, AS.ev, Qc, QF, Qk, AV.Qk5, Qy, Q6, QlX, QlY, QA, QlZ, ↓reduceIte, QlQ, QlR, Nat.reduceLT, Nat.reduceLeDiff, Nat.reduceEqDiff, Nat.reduceMul, QlP, Qmb, Ql, QK, QL, Q7, QlD, QlE, QlF, QlS, QlW, QlL, rng2, Xa, Nat.reducePow, zi9, ti23, XP, ei48, g0, t1, t3, t4]) | (with_reducible refine Qn ?_) | ((with_reducible refine hK _ ?_); clear hK))
    simp only [QN, Qp, Qu, upd, ↓reduceIte, QlJ, QlN]; first | refine Qe (htake _ _) (.keep (.v _)) ⟨rfl, rfl⟩ | refine Qe List.take_length (.keep (.v _)) ⟨rfl, rfl⟩
end Go.Proofs.YtenheconhibonaaGreatDoor.Ab
set_option maxRecDepth 4000
namespace Go.Proofs.YtenheconhibonaaGreatDoor.Ab
open Go.Proofs
def Qaq (l : List G) : ByteArray := if 40 < l.length then { data := #[] } else if l.all Q4 = true then ZV (jG l) else { data := #[] }
theorem Qes (l : List G) (hl : l.length ≤ 100000) (h : AH) (hG : XO h) : Yd Tryz.prog 18 [.sl 3 (vs G.goal l) none] h fun o h' => o = .ret (.v (.string (Qaq l))) ∧ h' = h := by
  by_cases q : 40 < l.length
  · have z : (l.length : Int) > 40 := by omega
    refine Qh Tryz.func18 rfl Tryz.call18 Tryz.ntmps18 (congrArg Array.toList Tryz.results18) (by simp) ?_
    repeat (first | (((with_reducible refine Qa fun K E hK hE => ?_)); simp -implicitDefEqProofs only [Qd, Qb, Qg, OpW, aop, undef, AS.ev, Qc, Qq, Qr, QF, Qk, QD, QlK, Ql0, ↓reduceIte, Nat.reduceLT, Nat.reduceEqDiff, aBin, aLen, QlD, QlE, QlF, QlI, QlG, Q1, goInt, Ql9, beq_false, un23, z, QG]) | (with_reducible (first | refine Qi fun K hK => ?_ | refine Qn ?_ | refine QB ?_)) | ((with_reducible refine hK _ ?_); clear hK) | (refine Qj rfl ?_; simp only [↓reduceIte]))
    simp only [QN, Qp, Qu, upd, ↓reduceIte, QlJ, QlN]; first | refine Qe (htake _ _) (.keep (.v _)) ⟨by rw [Qaq, if_pos q], rfl⟩ | refine Qe List.take_length (.keep (.v _)) ⟨by rw [Qaq, if_pos q], rfl⟩
  · have z : ¬ (l.length : Int) > 40 := by omega
    have a := QdO G.goal Q4 (.fn (.func 61) [] []) QdG l (by omega) h (fun g _ h => FunW.call (ZJ g h))
    cases hv : l.all Q4 with
    | false =>
      rw [hv] at a
      refine Qh Tryz.func18 rfl Tryz.call18 Tryz.ntmps18 (congrArg Array.toList Tryz.results18) (by simp) ?_
      repeat (first | ((first | (with_reducible (first | refine Qa fun K E hK hE => ?_ | refine FunW.ret (FunW.call a) ?_))); simp -implicitDefEqProofs only [Qd, Qb, Qg, OpW, QR, aop, undef, AS.ev, Qc, Qq, QF, Qk, QD, QlK, Ql1, ↓reduceIte, Nat.reduceLT, Nat.reduceEqDiff, aBin, aLen, QlD, QlE, QlF, QlI, QlG, QlS, QlW, Q1, Xb, goInt, Qma, QlL, QlH, un23, z, QG]) | (with_reducible (first | refine Qi fun K hK => ?_ | refine Qn ?_ | refine QB ?_)) | ((with_reducible refine hK _ ?_); clear hK) | (refine Qj rfl ?_; simp only [↓reduceIte]))
      simp only [QN, Qp, Qu, upd, ↓reduceIte, QlJ, QlN]; first | refine Qe (htake _ _) (.keep (.v _)) ⟨by rw [Qaq, if_neg q, hv]; rfl, rfl⟩ | refine Qe List.take_length (.keep (.v _)) ⟨by rw [Qaq, if_neg q, hv]; rfl, rfl⟩
    | true =>
      rw [hv] at a
      have c := Qg1 l hv hl h hG
      have c3 := Qbu (jG l)
      refine Qh Tryz.func18 rfl Tryz.call18 Tryz.ntmps18 (congrArg Array.toList Tryz.results18) (by simp) ?_
      repeat (first | ((first | (with_reducible (first | refine Qa fun K E hK hE => ?_ | refine FunW.ret (FunW.call a) ?_ | refine FunW.ret (FunW.call c) ?_ | refine Qs c3 ?_))); simp -implicitDefEqProofs only [Qd, Qb, Qg, OpW, QR, aop, undef, AS.ev, Qc, Qq, QF, Qk, QD, QlK, Ql0, ↓reduceIte, Nat.reduceLT, Nat.reduceEqDiff, aBin, aLen, QlD, QlE, QlF, QlI, QlG, QlS, QlW, Q1, Xb, goInt, Qma, QlL, QlH, un23, z, QG]) | (with_reducible (first | refine Qi fun K hK => ?_ | refine Qn ?_ | refine Qv ?_ | refine Qf ?_)) | ((with_reducible refine hK _ ?_); clear hK) | (refine Qj rfl ?_; simp only [↓reduceIte, QlH]))
      simp only [QN, Qp, Qu, upd, ↓reduceIte, QlJ, QlN]; first | refine Qe (htake _ _) (.keep (.v _)) ⟨by rw [Qaq, if_neg q, if_pos hv], rfl⟩ | refine Qe List.take_length (.keep (.v _)) ⟨by rw [Qaq, if_neg q, if_pos hv], rfl⟩
def YY (d : Dc) : Bool := Yv d.name && decide (0 ≤ d.arity ∧ d.arity ≤ 6)
theorem Qhd (d : Dc) : Pure Tryz.prog 54 [d.av] (.b (YY d)) := by
  intro h
  have cn : Pure Tryz.prog 55 [.v (.string d.name)] (.b (Yv d.name)) := Qbl d.name
  have ed : d.av = AV.agg [.v (.string d.name), .v (.int .i64 d.arity)] := rfl
  cases hr : Yv d.name with
  | false =>
    have R : YY d = false := by rw [YY, hr]; rfl
    rw [hr] at cn
    refine Qh Tryz.func54 rfl Tryz.call54 Tryz.ntmps54 (congrArg Array.toList Tryz.results54) (by simp) ?_
    rw [ed]
    repeat (first | ((first | (with_reducible (first | refine Qa fun K E hK hE => ?_ | refine Qs cn ?_))); simp -implicitDefEqProofs only [Qd, Qb, Qg, OpW, QR, aop, undef, AS.ev, Qc, Qr, Qk, QD, QlK, AV.Qk5, Qy, QlX, QlY, QC, QA, QlZ, ↓reduceIte, QlQ, QlR, Nat.reduceAdd, Nat.reduceLT, Nat.reduceEqDiff, QlP, Ql2, Ql, QK, QL, QO, QlD, QlE, QlF, QlI, QlG, QlS, QlW, QlH, beq_true, ti9, QaM]) | (with_reducible refine Qn ?_) | ((with_reducible refine hK _ ?_); clear hK))
    simp only [QN, Qp, Qu, upd, ↓reduceIte, QlJ, QlN]; first | refine Qe (htake _ _) (.keep (.v _)) ⟨by rw [R], rfl⟩ | refine Qe List.take_length (.keep (.v _)) ⟨by rw [R], rfl⟩
  | true =>
    rw [hr] at cn
    by_cases a0 : d.arity ≥ 0
    · by_cases a6 : d.arity ≤ 6
      · have R : YY d = true := by rw [YY, hr, decide_eq_true (by omega)]; rfl
        refine Qh Tryz.func54 rfl Tryz.call54 Tryz.ntmps54 (congrArg Array.toList Tryz.results54) (by simp) ?_
        rw [ed]
        repeat (first | ((first | (with_reducible (first | refine Qa fun K E hK hE => ?_ | refine Qs cn ?_))); simp -implicitDefEqProofs only [Qd, Qb, Qg, OpW, QR, aop, undef, AS.ev, Qc, Qq, Qr, Qk, QD, QlK, AV.Qk5, Qy, QlX, QlY, QC, QA, QlZ, ↓reduceIte, QlQ, QlR, Nat.reduceAdd, Nat.reduceLT, Nat.reduceEqDiff, QlP, Ql2, Ql, QK, QL, aBin, QO, QlD, QlE, QlF, QlI, QlG, QlS, QlW, X5, Yl, Ql9, QlL, ti3, ti9, QaM, QcD, a0, a6]) | (with_reducible refine Qn ?_) | ((with_reducible refine hK _ ?_); clear hK))
        simp only [QN, Qp, Qu, upd, ↓reduceIte, QlJ, QlN]; first | refine Qe (htake _ _) (.keep (.v _)) ⟨by rw [R], rfl⟩ | refine Qe List.take_length (.keep (.v _)) ⟨by rw [R], rfl⟩
      · have R : YY d = false := by rw [YY, hr, decide_eq_false (by omega)]; rfl
        refine Qh Tryz.func54 rfl Tryz.call54 Tryz.ntmps54 (congrArg Array.toList Tryz.results54) (by simp) ?_
        rw [ed]
        repeat (first | ((first | (with_reducible (first | refine Qa fun K E hK hE => ?_ | refine Qs cn ?_))); simp -implicitDefEqProofs only [Qd, Qb, Qg, OpW, QR, aop, undef, AS.ev, Qc, Qq, Qr, Qk, QD, QlK, AV.Qk5, Qy, QlX, QlY, QC, QA, QlZ, ↓reduceIte, QlQ, QlR, Nat.reduceAdd, Nat.reduceLT, Nat.reduceEqDiff, QlP, Ql2, Ql, QK, QL, aBin, QO, QlD, QlE, QlF, QlI, QlG, QlS, QlW, X5, Yl, Ql9, Qma, QlL, ti3, ti9, QaM, QcD, a0, a6]) | (with_reducible refine Qn ?_) | ((with_reducible refine hK _ ?_); clear hK))
        simp only [QN, Qp, Qu, upd, ↓reduceIte, QlJ, QlN]; first | refine Qe (htake _ _) (.keep (.v _)) ⟨by rw [R], rfl⟩ | refine Qe List.take_length (.keep (.v _)) ⟨by rw [R], rfl⟩
    · have R : YY d = false := by rw [YY, hr, decide_eq_false (by omega)]; rfl
      refine Qh Tryz.func54 rfl Tryz.call54 Tryz.ntmps54 (congrArg Array.toList Tryz.results54) (by simp) ?_
      rw [ed]
      repeat (first | ((first | (with_reducible (first | refine Qa fun K E hK hE => ?_ | refine Qs cn ?_))); simp -implicitDefEqProofs only [Qd, Qb, Qg, OpW, QR, aop, undef, AS.ev, Qc, Qq, Qr, Qk, QD, QlK, AV.Qk5, Qy, QlX, QlY, QC, QA, QlZ, ↓reduceIte, QlQ, QlR, Nat.reduceAdd, Nat.reduceLT, Nat.reduceEqDiff, QlP, Ql2, Ql, QK, QL, aBin, QO, QlD, QlE, QlF, QlI, QlG, QlS, QlW, Yl, Qma, QlL, QlH, beq_true, ti3, ti9, QaM, QcD, a0]) | (with_reducible refine Qn ?_) | ((with_reducible refine hK _ ?_); clear hK))
      simp only [QN, Qp, Qu, upd, ↓reduceIte, QlJ, QlN]; first | refine Qe (htake _ _) (.keep (.v _)) ⟨by rw [R], rfl⟩ | refine Qe List.take_length (.keep (.v _)) ⟨by rw [R], rfl⟩
abbrev slB : ByteArray := { data := #[47] }
def txtD (d : Dc) : ByteArray := (d.name ++ slB) ++ decZ d.arity
theorem Qfr (d : Dc) (hn : d.name.size ≤ 1000) (ha : 0 ≤ d.arity ∧ d.arity ≤ 6) (h : AH) (hG : XO h) : Yd Tryz.prog 57 [d.av] h fun o h' => o = .ret (.v (.string (txtD d))) ∧ h' = h := by
  have ed : d.av = AV.agg [.v (.string d.name), .v (.int .i64 d.arity)] := rfl
  have c := Qei d.arity (by omega) (by omega) (h ++ [.cells 38 2 [.agg [.v (.string d.name), .v (.int .i64 d.arity)]]]) (hG.app _)
  have ss : slB.size = 1 := rfl
  have hz := Qb4 d.arity (by omega) (by omega)
  have hsa1 := fun xo yo => Xl Tryz.prog 9 xo yo d.name slB (by omega)
  have hsa2 := fun xo yo => Xl Tryz.prog 9 xo yo (d.name ++ slB) (decZ d.arity) (by rw [Qt]; omega)
  refine Qh Tryz.func57 rfl Tryz.call57 Tryz.ntmps57 (congrArg Array.toList Tryz.results57) (by simp) ?_
  rw [ed]
  repeat (first | ((first | (with_reducible (first | refine Qa fun K E hK hE => ?_ | refine XL (FunW.call c) (ZR _) ?_)) | (refine QX (id := 1) [(0, 0), (1, 0), (2, 0), (3, 0), (4, 0), (5, 3), (6, 0), (7, 0)] mixed (by kernel_rfl) fun K hK => ?_)); simp -implicitDefEqProofs only [Xk, Xd, Xw, Qd, Qb, Qg, OpW, aop, undef, AS.ev, Qc, QF, Qk, QD, QlK, AV.Qk5, Qy, QlX, QlY, QC, QA, QlZ, ↓reduceIte, QlQ, QlR, Nat.reduceAdd, Nat.reduceLT, Nat.reduceLeDiff, Nat.reduceEqDiff, QlP, Ql2, Ql, QK, QL, aBin, QO, QlD, QlE, QlF, QlG, QlS, QlW, ti3, ti9, QaM, QcD, hsa1, hsa2]) | (with_reducible refine Qn ?_) | ((with_reducible refine hK _ ?_); clear hK))
  simp only [QN, Qp, Qu, upd, ↓reduceIte, QlJ, QlN]; first | refine Qe (htake _ _) (.keep (.v _)) ⟨rfl, rfl⟩ | refine Qe List.take_length (.keep (.v _)) ⟨rfl, rfl⟩
theorem QiT (d : Dc) : d.av.isAgg = true ∧ d.av.cells.length = 2 ∧ d.av.cells.all AV.cell1 = true := ⟨rfl, rfl, rfl⟩
abbrev conB : ByteArray := { data := #[99, 111, 110, 115, 116, 114, 97, 105, 110, 116, 32] }
abbrev endB : ByteArray := { data := #[46, 10] }
abbrev nlB : ByteArray := { data := #[10] }
def jD (l : List Dc) : ByteArray := XV true (l.map txtD)
theorem QiC {d : Dc} (h : YY d = true) : 1 ≤ (txtD d).size ∧ (txtD d).size ≤ 15000 := by
  rw [YY, Bool.and_eq_true, decide_eq_true_eq] at h
  have hn := Y1 h.1
  have hz := Qb4 d.arity (by omega) (by omega)
  have ss : slB.size = 1 := rfl
  rw [txtD, Qt, Qt]
  omega
theorem QgY {l : List Dc} (hv : l.all YY = true) : (jD l).size ≤ 15002 * l.length := (Qaw txtD l fun x hx => QiC (List.all_eq_true.1 hv x hx)).1
theorem QkB (l : List Dc) (hv : l.all YY = true) (hl : l.length ≤ 100000) (h : AH) (hG : XO h) :
    Yd Tryz.prog 56 [.sl 2 (vs Dc.av l) none, .fn (.func 57) [] []] h fun o h' => o = .ret (.v (.string (jD l))) ∧ h' = h := by
  cases l with
  | nil => exact QgR _ h
  | cons x l =>
    have hj := Qaw txtD (x :: l) fun x hx => QiC (List.all_eq_true.1 hv x hx)
    refine QfM Dc.av txtD _ QiT (x :: l) (by simp) (by omega) h hG (fun d hd h hG => FunW.call (Qfr d ?_ ?_ h hG)) (hj.2 (by simp)) (by omega)
    all_goals
      have hr := List.all_eq_true.1 hv d hd
      rw [YY, Bool.and_eq_true, decide_eq_true_eq] at hr
    · have := (Y1 hr.1).2; omega
    · exact hr.2
def Qbx (l : List Dc) : ByteArray := if l = [] then .empty else (conB ++ jD l) ++ endB
def Qby : List Rl → ByteArray
  | [] => .empty
  | r :: l => (Z9 r ++ nlB) ++ Qby l
def ZH (l : List Rl) : Bool := l.all fun r => !Yr (Z9 r)
def Z8 (p : Pg) : ByteArray := if 30 < p.decls.length ∨ 40 < p.rules.length then { data := #[] } else if p.decls.all YY = true then (if ZH p.rules = true then ZV (Qbx p.decls ++ Qby p.rules) else { data := #[] }) else { data := #[] }
def Rl.fits (r : Rl) : Prop := r.keep.length ≤ 100000 ∧ r.remove.length ≤ 100000 ∧ r.guard.length ≤ 100000 ∧ r.body.length ≤ 100000 ∧ wG r.keep + wG r.remove + wG r.guard + wG r.body ≤ 1000000
theorem Qeg (r : Rl) : (Z9 r).size ≤ 16384 := by
  rw [Z9]
  split
  · rw [ZV]; split
    · decide
    · omega
  · decide
theorem QkJ (r : Rl) : r.av.isAgg = true ∧ r.av.cells.length = 6 ∧ r.av.cells.all AV.cell1 = true := ⟨rfl, rfl, rfl⟩
end Go.Proofs.YtenheconhibonaaGreatDoor.Ab
