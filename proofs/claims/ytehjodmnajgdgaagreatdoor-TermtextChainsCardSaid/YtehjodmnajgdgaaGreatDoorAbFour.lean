/-
  An abstract program logic, contracts of functions, and laws of terms and rules (part 4).
-/
import Derived.Test.YtehjodmnajgdgaaGreatDoorAbThree
import Derived.Test.YtehjodmnajgdgaaGreatDoorAbTwo
set_option linter.unusedVariables false
set_option linter.unusedSimpArgs false
set_option maxHeartbeats 4000000
set_option maxRecDepth 4000
namespace Go.Proofs.YtehjodmnajgdgaaGreatDoor.Ab
open Go.Proofs
def TIh (i j : Nat) (t : T) : Prop := ∀ (h : AH), i < h.length → j < h.length → XT (HB h i j true (.empty)) → ∀ (u : Bool) (tx : ByteArray), tx.size + t.txt.size ≤ 140737488355328 → Wri 35 [.ptr i 0 0, t.av] h i j u tx t.txt
theorem QjL (b : Bool) (x tx : ByteArray) : (if b = true then tx ++ lpa else tx).size + x.size ≤ tx.size + (encB b x).size := by
  rw [encB]; split
  · rw [QE, QE, QE]; omega
  · exact Nat.le_refl _
theorem QlG {h : AH} {i j : Nat} (hi : i < h.length) (hj : j < h.length) (hij : i ≠ j) (n : ByteArray) (x : Int) (a c : T) (hn : n.size ≤ 1000000) (ho : ofB n ≠ 0) (hla : a.args.length ≤ 1000000) (hlc : c.args.length ≤ 1000000) (iha : TIh i j a) (ihc : TIh i j c)
    (hG : XT (HB h i j true (.empty))) (u : Bool) (tx : ByteArray) (hs : tx.size + (binT (ofB n) n a.oper c.oper a.txt c.txt).size ≤ 140737488355328) :
    Wri 35 [.ptr i 0 0, (T.mk 2 x n [a, c]).av] h i j u tx (binT (ofB n) n a.oper c.oper a.txt c.txt) := by
  obtain ⟨t, ht⟩ : ∃ t, t = T.mk 2 x n [a, c] := ⟨_, rfl⟩
  have eo : t.oper = ofB n := by rw [ht]; rfl
  have eav : t.av = .agg [.i 2, .i x, .v (.string n), .sl 4 (avs [a, c]) none] := by rw [ht]; rfl
  obtain ⟨L, hL⟩ : ∃ L : AH, L = [AB.cells 58 1 [.ptr i 0 0], AB.cells 24 4 [t.av]] := ⟨_, rfl⟩
  have hlL : (h ++ L).length = h.length + 2 := by rw [hL]; simp
  have hi' : i < (h ++ L).length := by omega
  have hj' : j < (h ++ L).length := by omega
  have gapp := fun (u : Bool) (tx : ByteArray) (L : AH) => Qie (h := h) (i := i) (j := j) hi hj u tx L
  have hG' : XT (HB (h ++ L) i j true (.empty)) := by rw [gapp]; exact HasG.app hG _
  have gp : ∀ u tx, (HB (h ++ L) i j u tx)[h.length]? = some (.cells 58 1 [.ptr i 0 0]) := fun u tx => by rw [gapp, QeE, hL]; rfl
  have gq : ∀ u tx, (HB (h ++ L) i j u tx)[h.length + 1]? = some (.cells 24 4 [t.av]) := fun u tx => by rw [gapp, QgM, hL]; rfl
  have ct := Qbu t (by rw [ht]; simp [maxLen, T.args])
  rw [eo, eav] at ct
  have ca := Qbu a (by simp only [maxLen]; omega)
  have cc := Qbu c (by simp only [maxLen]; omega)
  obtain ⟨o, eoo⟩ : ∃ o, o = ofB n := ⟨_, rfl⟩
  obtain ⟨oa, eoa⟩ : ∃ o, o = a.oper := ⟨_, rfl⟩
  obtain ⟨oc, eoc⟩ : ∃ o, o = c.oper := ⟨_, rfl⟩
  rw [← eoo] at ct
  rw [← eoa] at ca
  rw [← eoc] at cc
  rw [← eoo, ← eoa, ← eoc] at hs ⊢
  rw [← eoo] at ho
  have hm := hs
  simp only [binT, QE] at hm
  have hsp : ({ data := #[32] } : ByteArray).size = 1 := rfl
  -- the first operand
  have hw1 := fun (u : Bool) (q : Bool) (tx' : ByteArray) (hq : tx'.size + a.txt.size ≤ 140737488355328) => QkB (p := h.length) (q := h.length + 1) (t := t) (a := a) (gp u tx') (gq u tx') (by rw [ht]; rfl) (iha (h ++ L) hi' hj' hG' u tx' hq)
  have hw2 := fun (u : Bool) (q : Bool) (tx' : ByteArray) (hq : tx'.size + c.txt.size ≤ 140737488355328) => Qkh (p := h.length) (q := h.length + 1) (t := t) (a := c) (gp u tx') (gq u tx') (by rw [ht]; rfl) (ihc (h ++ L) hi' hj' hG' u tx' hq)
  have e1 := QjL ((oa == 1) && (o == 2)) a.txt tx
  have c1 := QaR (h := h ++ L) hi' hj' hij ((oa == 1) && (o == 2)) u tx a.txt (fv := .fn (.func 70) [] [.ptr h.length 0 0, .ptr (h.length + 1) 0 0]) (by omega) (FunW.fn (hw1 _ true _ (by omega)))
  obtain ⟨tx1, etx1⟩ : ∃ z, z = tx ++ encB ((oa == 1) && (o == 2)) a.txt := ⟨_, rfl⟩
  rw [← etx1] at c1
  have hsz1 : tx1.size = tx.size + (encB ((oa == 1) && (o == 2)) a.txt).size := by rw [etx1, QE]
  have c2 := wstr (h := h ++ L) hi' hj' hij true tx1 (({ data := #[32] } : ByteArray) ++ n ++ { data := #[32] }) (by simp only [QE]; omega)
  obtain ⟨tx2, etx2⟩ : ∃ z, z = tx1 ++ (({ data := #[32] } : ByteArray) ++ n ++ { data := #[32] }) := ⟨_, rfl⟩
  rw [← etx2] at c2
  have hsz2 : tx2.size = tx1.size + (1 + n.size + 1) := by rw [etx2]; simp only [QE, hsp]
  have e3 := QjL ((oc != 0) && ((oc == 1) || (o == 2))) c.txt tx2
  have c3 := QaR (h := h ++ L) hi' hj' hij ((oc != 0) && ((oc == 1) || (o == 2))) true tx2 c.txt (fv := .fn (.func 71) [] [.ptr h.length 0 0, .ptr (h.length + 1) 0 0]) (by omega) (FunW.fn (hw2 _ true _ (by omega)))
  have efin : tx2 ++ encB ((oc != 0) && ((oc == 1) || (o == 2))) c.txt = tx ++ binT o n oa oc a.txt c.txt := by
    rw [etx2, etx1, binT]; simp only [ByteArray.append_assoc]
  rw [efin] at c3
  rw [gapp, gapp, hL, eav] at c1 c2 c3
  have f1 := Qfb h i j
  have f2 := fun u tx L => QeE h i j u tx L
  have f3 := fun u tx L => QgM h i j u tx L
  have f6 := fun u tx L => QdT (h := h) hi hij u tx L
  have hsa1 := fun xo yo => Xv Tryz.prog 9 xo yo ({ data := #[32] } : ByteArray) n (by omega)
  have hsa2 := fun xo yo => Xv Tryz.prog 9 xo yo (({ data := #[32] } : ByteArray) ++ n) { data := #[32] } (by rw [QE]; omega)
  have ga : (avs [a, c])[0]? = some a.av := rfl
  have gc : (avs [a, c])[1]? = some c.av := rfl
  have hav : (T.mk 2 x n [a, c]).av = .agg [.i 2, .i x, .v (.string n), .sl 4 (avs [a, c]) none] := rfl
  have ho' : (o != 0) = true := by simpa using ho
  rw [hav]
  have hll : (avs [a, c]).length = 2 := rfl
  have z0 : ((0 : Int) ≤ 1) = True := by simp
  have z1 : ((0 : Int) < ((2 : Nat) : Int)) = True := by simp
  have z2 : ((1 : Int) < ((2 : Nat) : Int)) = True := by simp
  obtain ⟨q1, eq1⟩ : ∃ z, z = ((oa == 1) && (o == 2)) := ⟨_, rfl⟩
  obtain ⟨q3, eq3⟩ : ∃ z, z = ((oc != 0) && ((oc == 1) || (o == 2))) := ⟨_, rfl⟩
  rw [← eq1] at c1
  rw [← eq3] at c3
  cases b1 : (oa == 1)
  · cases b2 : (o == 2)
    · cases b3 : (oc != 0)
      · have hq1 : q1 = false := by rw [eq1, b1, b2]; rfl
        have hq3 : q3 = false := by rw [eq3, b2, b3]; rfl
        rw [hq1] at c1
        rw [hq3] at c3
        refine Qe Tryz.func35 rfl Tryz.call35 Tryz.ntmps35 (congrArg Array.toList Tryz.results35) (by simp) ?_
        repeat (first | ((first | (with_reducible (first | refine Qa fun K E hK hE => ?_ | refine Qs fun K E hK hE => ?_ | refine Qo ct ?_ | refine QQ ca ?_ | refine QQ cc ?_ | refine FunW.ret (FunW.call c1) ?_ | refine FunW.ret (FunW.call c3) ?_ | refine Xs (FunW.call c2) YY ?_)) | (refine QR (id := 4) [(0, 0), (1, 0), (2, 0), (3, 0), (4, 1), (5, 0), (6, 0), (7, 0), (8, 0), (9, 1), (10, 0), (11, 0)] mixed (by kernel_rfl) fun K hK => ?_) | (refine QR (id := 6) [(0, 0), (1, 0), (2, 0), (3, 0), (4, 0), (5, 0), (6, 0), (7, 2)] mixed (by kernel_rfl) fun K hK => ?_)); simp -implicitDefEqProofs only [Q4, Q1, Xb, Qd, Qb, Qg, OpW, QO, aop, undef, AS.ev, Qc, Qn, Qr, QG, Qi, Qw, Qns, QnL, AV.QmP, QB, Xu, QJ, QnF, QnG, Qv, Qt, QC, XC, QnH, ↓reduceIte, Qny, Qnz, Nat.reduceAdd, Nat.reduceLT, Nat.reduceLeDiff, Nat.reduceEqDiff, Qnx, QnK, QnT, Qp, QK, QL, QZ, aBin, hlen, happ, Qnl, Qnm, Qnn, Qnq, Qno, QnA, QnE, QnN, QnM, QS, Xh, Int.toNat_zero, Int.toNat_one, Qnp, beq_true, T.QmN, T.QmO, ti9, ti22, ei22, ti24, Xx, Xy, ti58, YH, Qn8, QX, f1, f2, f3, f6, ho', hll, ga, gc, z0, z1, z2, b1, b3, hsa1, hsa2, T.QmO, T.QmN]) | (with_reducible (first | refine Qq ?_ | refine QD ?_)) | ((with_reducible refine hK _ ?_); clear hK) | (refine Qk rfl ?_; simp only [↓reduceIte]))
        simp -implicitDefEqProofs only [Qnn, Qnr, List.mapM_nil, Option.pure_def, Qnn, QI, Qm, Qnv]
        exact XU hi hj hij (.keep (.tup _ fun x hx => by cases hx)) ⟨rfl, rfl⟩
      · cases b4 : (oc == 1)
        · have hq1 : q1 = false := by rw [eq1, b1, b2]; rfl
          have hq3 : q3 = false := by rw [eq3, b2, b3, b4]; rfl
          rw [hq1] at c1
          rw [hq3] at c3
          refine Qe Tryz.func35 rfl Tryz.call35 Tryz.ntmps35 (congrArg Array.toList Tryz.results35) (by simp) ?_
          repeat (first | ((first | (with_reducible (first | refine Qa fun K E hK hE => ?_ | refine Qs fun K E hK hE => ?_ | refine Qo ct ?_ | refine QQ ca ?_ | refine QQ cc ?_ | refine FunW.ret (FunW.call c1) ?_ | refine FunW.ret (FunW.call c3) ?_ | refine Xs (FunW.call c2) YY ?_)) | (refine QR (id := 4) [(0, 0), (1, 0), (2, 0), (3, 0), (4, 1), (5, 0), (6, 0), (7, 0), (8, 0), (9, 1), (10, 0), (11, 0)] mixed (by kernel_rfl) fun K hK => ?_) | (refine QR (id := 6) [(0, 0), (1, 0), (2, 0), (3, 0), (4, 0), (5, 0), (6, 0), (7, 2)] mixed (by kernel_rfl) fun K hK => ?_)); simp -implicitDefEqProofs only [Q4, Q1, Xb, Qd, Qb, Qg, OpW, QO, aop, undef, AS.ev, Qc, Qn, Qr, QG, Qi, Qw, Qns, QnL, AV.QmP, QB, Xu, QJ, QnF, QnG, Qv, Qt, QC, XC, QnH, ↓reduceIte, Qny, Qnz, Nat.reduceAdd, Nat.reduceLT, Nat.reduceLeDiff, Nat.reduceEqDiff, Qnx, QnK, QnT, Qp, QK, QL, QZ, aBin, hlen, happ, Qnl, Qnm, Qnn, Qnq, Qno, QnA, QnE, QnN, QnM, QS, Xh, Qnt, Int.toNat_zero, Int.toNat_one, Qnp, beq_true, T.QmN, T.QmO, ti9, ti22, ei22, ti24, Xx, Xy, ti58, YH, Qn8, QX, f1, f2, f3, f6, ho', hll, ga, gc, z0, z1, z2, b1, b2, b3, b4, hsa1, hsa2, T.QmO, T.QmN]) | (with_reducible (first | refine Qq ?_ | refine QD ?_)) | ((with_reducible refine hK _ ?_); clear hK) | (refine Qk rfl ?_; simp only [↓reduceIte]))
          simp -implicitDefEqProofs only [Qnn, Qnr, List.mapM_nil, Option.pure_def, Qnn, QI, Qm, Qnv]
          exact XU hi hj hij (.keep (.tup _ fun x hx => by cases hx)) ⟨rfl, rfl⟩
        · have hq1 : q1 = false := by rw [eq1, b1, b2]; rfl
          have hq3 : q3 = true := by rw [eq3, b2, b3, b4]; rfl
          rw [hq1] at c1
          rw [hq3] at c3
          refine Qe Tryz.func35 rfl Tryz.call35 Tryz.ntmps35 (congrArg Array.toList Tryz.results35) (by simp) ?_
          repeat (first | ((first | (with_reducible (first | refine Qa fun K E hK hE => ?_ | refine Qs fun K E hK hE => ?_ | refine Qo ct ?_ | refine QQ ca ?_ | refine QQ cc ?_ | refine FunW.ret (FunW.call c1) ?_ | refine FunW.ret (FunW.call c3) ?_ | refine Xs (FunW.call c2) YY ?_)) | (refine QR (id := 4) [(0, 0), (1, 0), (2, 0), (3, 0), (4, 1), (5, 0), (6, 0), (7, 0), (8, 0), (9, 1), (10, 0), (11, 0)] mixed (by kernel_rfl) fun K hK => ?_) | (refine QR (id := 6) [(0, 0), (1, 0), (2, 0), (3, 0), (4, 0), (5, 0), (6, 0), (7, 2)] mixed (by kernel_rfl) fun K hK => ?_)); simp -implicitDefEqProofs only [Q4, Q1, Xb, Qd, Qb, Qg, OpW, QO, aop, undef, AS.ev, Qc, Qn, Qr, QG, Qi, Qw, Qns, QnL, AV.QmP, QB, Xu, QJ, QnF, QnG, Qv, Qt, QC, XC, QnH, QnI, ↓reduceIte, Qny, Qnz, Nat.reduceAdd, Nat.reduceLT, Nat.reduceLeDiff, Nat.reduceEqDiff, Qnx, QnK, QnT, Qp, QK, QL, QZ, aBin, hlen, happ, Qnl, Qnm, Qnn, Qnq, Qno, QnA, QnE, QnN, QnM, QS, Xh, Qnt, Int.toNat_zero, Int.toNat_one, Qnp, beq_true, beq_false, T.QmN, T.QmO, ti9, ti22, ei22, ti24, Xx, Xy, ti58, YH, Qn8, QX, f1, f2, f3, f6, ho', hll, ga, gc, z0, z1, z2, b1, b3, b4, hsa1, hsa2, T.QmO, T.QmN]) | (with_reducible (first | refine Qq ?_ | refine QD ?_)) | ((with_reducible refine hK _ ?_); clear hK) | (refine Qk rfl ?_; simp only [↓reduceIte]))
          simp -implicitDefEqProofs only [Qnn, Qnr, List.mapM_nil, Option.pure_def, Qnn, QI, Qm, Qnv]
          exact XU hi hj hij (.keep (.tup _ fun x hx => by cases hx)) ⟨rfl, rfl⟩
    · cases b3 : (oc != 0)
      · have hq1 : q1 = false := by rw [eq1, b1, b2]; rfl
        have hq3 : q3 = false := by rw [eq3, b2, b3]; rfl
        rw [hq1] at c1
        rw [hq3] at c3
        refine Qe Tryz.func35 rfl Tryz.call35 Tryz.ntmps35 (congrArg Array.toList Tryz.results35) (by simp) ?_
        repeat (first | ((first | (with_reducible (first | refine Qa fun K E hK hE => ?_ | refine Qs fun K E hK hE => ?_ | refine Qo ct ?_ | refine QQ ca ?_ | refine QQ cc ?_ | refine FunW.ret (FunW.call c1) ?_ | refine FunW.ret (FunW.call c3) ?_ | refine Xs (FunW.call c2) YY ?_)) | (refine QR (id := 4) [(0, 0), (1, 0), (2, 0), (3, 0), (4, 1), (5, 0), (6, 0), (7, 0), (8, 0), (9, 1), (10, 0), (11, 0)] mixed (by kernel_rfl) fun K hK => ?_) | (refine QR (id := 6) [(0, 0), (1, 0), (2, 0), (3, 0), (4, 0), (5, 0), (6, 0), (7, 2)] mixed (by kernel_rfl) fun K hK => ?_)); simp -implicitDefEqProofs only [Q4, Q1, Xb, Qd, Qb, Qg, OpW, QO, aop, undef, AS.ev, Qc, Qn, Qr, QG, Qi, Qw, Qns, QnL, AV.QmP, QB, Xu, QJ, QnF, QnG, Qv, Qt, QC, XC, QnH, ↓reduceIte, Qny, Qnz, Nat.reduceAdd, Nat.reduceLT, Nat.reduceLeDiff, Nat.reduceEqDiff, Qnx, QnK, QnT, Qp, QK, QL, QZ, aBin, hlen, happ, Qnl, Qnm, Qnn, Qnq, Qno, QnA, QnE, QnN, QnM, QS, Xh, Int.toNat_zero, Int.toNat_one, Qnp, beq_true, T.QmN, T.QmO, ti9, ti22, ei22, ti24, Xx, Xy, ti58, YH, Qn8, QX, f1, f2, f3, f6, ho', hll, ga, gc, z0, z1, z2, b1, b3, hsa1, hsa2, T.QmO, T.QmN]) | (with_reducible (first | refine Qq ?_ | refine QD ?_)) | ((with_reducible refine hK _ ?_); clear hK) | (refine Qk rfl ?_; simp only [↓reduceIte]))
        simp -implicitDefEqProofs only [Qnn, Qnr, List.mapM_nil, Option.pure_def, Qnn, QI, Qm, Qnv]
        exact XU hi hj hij (.keep (.tup _ fun x hx => by cases hx)) ⟨rfl, rfl⟩
      · cases b4 : (oc == 1)
        · have hq1 : q1 = false := by rw [eq1, b1, b2]; rfl
          have hq3 : q3 = true := by rw [eq3, b2, b3, b4]; rfl
          rw [hq1] at c1
          rw [hq3] at c3
          refine Qe Tryz.func35 rfl Tryz.call35 Tryz.ntmps35 (congrArg Array.toList Tryz.results35) (by simp) ?_
          repeat (first | ((first | (with_reducible (first | refine Qa fun K E hK hE => ?_ | refine Qs fun K E hK hE => ?_ | refine Qo ct ?_ | refine QQ ca ?_ | refine QQ cc ?_ | refine FunW.ret (FunW.call c1) ?_ | refine FunW.ret (FunW.call c3) ?_ | refine Xs (FunW.call c2) YY ?_)) | (refine QR (id := 4) [(0, 0), (1, 0), (2, 0), (3, 0), (4, 1), (5, 0), (6, 0), (7, 0), (8, 0), (9, 1), (10, 0), (11, 0)] mixed (by kernel_rfl) fun K hK => ?_) | (refine QR (id := 6) [(0, 0), (1, 0), (2, 0), (3, 0), (4, 0), (5, 0), (6, 0), (7, 2)] mixed (by kernel_rfl) fun K hK => ?_)); simp -implicitDefEqProofs only [Q4, Q1, Xb, Qd, Qb, Qg, OpW, QO, aop, undef, AS.ev, Qc, Qn, Qr, QG, Qi, Qw, Qns, QnL, AV.QmP, QB, Xu, QJ, QnF, QnG, Qv, Qt, QC, XC, QnH, ↓reduceIte, Qny, Qnz, Nat.reduceAdd, Nat.reduceLT, Nat.reduceLeDiff, Nat.reduceEqDiff, Qnx, QnK, QnT, Qp, QK, QL, QZ, aBin, hlen, happ, Qnl, Qnm, Qnn, Qnq, Qno, QnA, QnE, QnN, QnM, QS, Xh, Qnt, Int.toNat_zero, Int.toNat_one, Qnp, beq_true, T.QmN, T.QmO, ti9, ti22, ei22, ti24, Xx, Xy, ti58, YH, Qn8, QX, f1, f2, f3, f6, ho', hll, ga, gc, z0, z1, z2, b1, b2, b3, b4, hsa1, hsa2, T.QmO, T.QmN]) | (with_reducible (first | refine Qq ?_ | refine QD ?_)) | ((with_reducible refine hK _ ?_); clear hK) | (refine Qk rfl ?_; simp only [↓reduceIte]))
          simp -implicitDefEqProofs only [Qnn, Qnr, List.mapM_nil, Option.pure_def, Qnn, QI, Qm, Qnv]
          exact XU hi hj hij (.keep (.tup _ fun x hx => by cases hx)) ⟨rfl, rfl⟩
        · have hq1 : q1 = false := by rw [eq1, b1, b2]; rfl
          have hq3 : q3 = true := by rw [eq3, b2, b3, b4]; rfl
          rw [hq1] at c1
          rw [hq3] at c3
          refine Qe Tryz.func35 rfl Tryz.call35 Tryz.ntmps35 (congrArg Array.toList Tryz.results35) (by simp) ?_
          repeat (first | ((first | (with_reducible (first | refine Qa fun K E hK hE => ?_ | refine Qs fun K E hK hE => ?_ | refine Qo ct ?_ | refine QQ ca ?_ | refine QQ cc ?_ | refine FunW.ret (FunW.call c1) ?_ | refine FunW.ret (FunW.call c3) ?_ | refine Xs (FunW.call c2) YY ?_)) | (refine QR (id := 4) [(0, 0), (1, 0), (2, 0), (3, 0), (4, 1), (5, 0), (6, 0), (7, 0), (8, 0), (9, 1), (10, 0), (11, 0)] mixed (by kernel_rfl) fun K hK => ?_) | (refine QR (id := 6) [(0, 0), (1, 0), (2, 0), (3, 0), (4, 0), (5, 0), (6, 0), (7, 2)] mixed (by kernel_rfl) fun K hK => ?_)); simp -implicitDefEqProofs only [Q4, Q1, Xb, Qd, Qb, Qg, OpW, QO, aop, undef, AS.ev, Qc, Qn, Qr, QG, Qi, Qw, Qns, QnL, AV.QmP, QB, Xu, QJ, QnF, QnG, Qv, Qt, QC, XC, QnH, QnI, ↓reduceIte, Qny, Qnz, Nat.reduceAdd, Nat.reduceLT, Nat.reduceLeDiff, Nat.reduceEqDiff, Qnx, QnK, QnT, Qp, QK, QL, QZ, aBin, hlen, happ, Qnl, Qnm, Qnn, Qnq, Qno, QnA, QnE, QnN, QnM, QS, Xh, Qnt, Int.toNat_zero, Int.toNat_one, Qnp, beq_true, beq_false, T.QmN, T.QmO, ti9, ti22, ei22, ti24, Xx, Xy, ti58, YH, Qn8, QX, f1, f2, f3, f6, ho', hll, ga, gc, z0, z1, z2, b1, b3, b4, hsa1, hsa2, T.QmO, T.QmN]) | (with_reducible (first | refine Qq ?_ | refine QD ?_)) | ((with_reducible refine hK _ ?_); clear hK) | (refine Qk rfl ?_; simp only [↓reduceIte]))
          simp -implicitDefEqProofs only [Qnn, Qnr, List.mapM_nil, Option.pure_def, Qnn, QI, Qm, Qnv]
          exact XU hi hj hij (.keep (.tup _ fun x hx => by cases hx)) ⟨rfl, rfl⟩
  · cases b2 : (o == 2)
    · cases b3 : (oc != 0)
      · have hq1 : q1 = false := by rw [eq1, b1, b2]; rfl
        have hq3 : q3 = false := by rw [eq3, b2, b3]; rfl
        rw [hq1] at c1
        rw [hq3] at c3
        refine Qe Tryz.func35 rfl Tryz.call35 Tryz.ntmps35 (congrArg Array.toList Tryz.results35) (by simp) ?_
        repeat (first | ((first | (with_reducible (first | refine Qa fun K E hK hE => ?_ | refine Qs fun K E hK hE => ?_ | refine Qo ct ?_ | refine QQ ca ?_ | refine QQ cc ?_ | refine FunW.ret (FunW.call c1) ?_ | refine FunW.ret (FunW.call c3) ?_ | refine Xs (FunW.call c2) YY ?_)) | (refine QR (id := 4) [(0, 0), (1, 0), (2, 0), (3, 0), (4, 1), (5, 0), (6, 0), (7, 0), (8, 0), (9, 1), (10, 0), (11, 0)] mixed (by kernel_rfl) fun K hK => ?_) | (refine QR (id := 6) [(0, 0), (1, 0), (2, 0), (3, 0), (4, 0), (5, 0), (6, 0), (7, 2)] mixed (by kernel_rfl) fun K hK => ?_)); simp -implicitDefEqProofs only [Q4, Q1, Xb, Qd, Qb, Qg, OpW, QO, aop, undef, AS.ev, Qc, Qn, Qr, QG, Qi, Qw, Qns, QnL, AV.QmP, QB, Xu, QJ, QnF, QnG, Qv, Qt, QC, XC, QnH, ↓reduceIte, Qny, Qnz, Nat.reduceAdd, Nat.reduceLT, Nat.reduceLeDiff, Nat.reduceEqDiff, Qnx, QnK, QnT, Qp, QK, QL, QZ, aBin, hlen, happ, Qnl, Qnm, Qnn, Qnq, Qno, QnA, QnE, QnN, QnM, QS, Xh, Qnt, Int.toNat_zero, Int.toNat_one, Qnp, beq_true, T.QmN, T.QmO, ti9, ti22, ei22, ti24, Xx, Xy, ti58, YH, Qn8, QX, f1, f2, f3, f6, ho', hll, ga, gc, z0, z1, z2, b1, b2, b3, hsa1, hsa2, T.QmO, T.QmN]) | (with_reducible (first | refine Qq ?_ | refine QD ?_)) | ((with_reducible refine hK _ ?_); clear hK) | (refine Qk rfl ?_; simp only [↓reduceIte]))
        simp -implicitDefEqProofs only [Qnn, Qnr, List.mapM_nil, Option.pure_def, Qnn, QI, Qm, Qnv]
        exact XU hi hj hij (.keep (.tup _ fun x hx => by cases hx)) ⟨rfl, rfl⟩
      · cases b4 : (oc == 1)
        · have hq1 : q1 = false := by rw [eq1, b1, b2]; rfl
          have hq3 : q3 = false := by rw [eq3, b2, b3, b4]; rfl
          rw [hq1] at c1
          rw [hq3] at c3
          refine Qe Tryz.func35 rfl Tryz.call35 Tryz.ntmps35 (congrArg Array.toList Tryz.results35) (by simp) ?_
          repeat (first | ((first | (with_reducible (first | refine Qa fun K E hK hE => ?_ | refine Qs fun K E hK hE => ?_ | refine Qo ct ?_ | refine QQ ca ?_ | refine QQ cc ?_ | refine FunW.ret (FunW.call c1) ?_ | refine FunW.ret (FunW.call c3) ?_ | refine Xs (FunW.call c2) YY ?_)) | (refine QR (id := 4) [(0, 0), (1, 0), (2, 0), (3, 0), (4, 1), (5, 0), (6, 0), (7, 0), (8, 0), (9, 1), (10, 0), (11, 0)] mixed (by kernel_rfl) fun K hK => ?_) | (refine QR (id := 6) [(0, 0), (1, 0), (2, 0), (3, 0), (4, 0), (5, 0), (6, 0), (7, 2)] mixed (by kernel_rfl) fun K hK => ?_)); simp -implicitDefEqProofs only [Q4, Q1, Xb, Qd, Qb, Qg, OpW, QO, aop, undef, AS.ev, Qc, Qn, QG, Qi, Qw, Qns, QnL, AV.QmP, QB, Xu, QJ, QnF, QnG, Qv, Qt, QC, XC, QnH, ↓reduceIte, Qny, Qnz, Nat.reduceAdd, Nat.reduceLT, Nat.reduceLeDiff, Nat.reduceEqDiff, Qnx, QnK, QnT, Qp, QK, QL, QZ, aBin, hlen, happ, Qnl, Qnm, Qnn, Qnq, Qno, QnA, QnE, QnN, QnM, QS, Xh, Qnt, Int.toNat_zero, Int.toNat_one, Qnp, T.QmN, T.QmO, ti9, ti22, ei22, ti24, Xx, Xy, ti58, YH, Qn8, QX, f1, f2, f3, f6, ho', hll, ga, gc, z0, z1, z2, b1, b2, b3, b4, hsa1, hsa2, T.QmO, T.QmN]) | (with_reducible (first | refine Qq ?_ | refine QD ?_)) | ((with_reducible refine hK _ ?_); clear hK) | (refine Qk rfl ?_; simp only [↓reduceIte]))
          simp -implicitDefEqProofs only [Qnn, Qnr, List.mapM_nil, Option.pure_def, Qnn, QI, Qm, Qnv]
          exact XU hi hj hij (.keep (.tup _ fun x hx => by cases hx)) ⟨rfl, rfl⟩
        · have hq1 : q1 = false := by rw [eq1, b1, b2]; rfl
          have hq3 : q3 = true := by rw [eq3, b2, b3, b4]; rfl
          rw [hq1] at c1
          rw [hq3] at c3
          refine Qe Tryz.func35 rfl Tryz.call35 Tryz.ntmps35 (congrArg Array.toList Tryz.results35) (by simp) ?_
          repeat (first | ((first | (with_reducible (first | refine Qa fun K E hK hE => ?_ | refine Qs fun K E hK hE => ?_ | refine Qo ct ?_ | refine QQ ca ?_ | refine QQ cc ?_ | refine FunW.ret (FunW.call c1) ?_ | refine FunW.ret (FunW.call c3) ?_ | refine Xs (FunW.call c2) YY ?_)) | (refine QR (id := 4) [(0, 0), (1, 0), (2, 0), (3, 0), (4, 1), (5, 0), (6, 0), (7, 0), (8, 0), (9, 1), (10, 0), (11, 0)] mixed (by kernel_rfl) fun K hK => ?_) | (refine QR (id := 6) [(0, 0), (1, 0), (2, 0), (3, 0), (4, 0), (5, 0), (6, 0), (7, 2)] mixed (by kernel_rfl) fun K hK => ?_)); simp -implicitDefEqProofs only [Q4, Q1, Xb, Qd, Qb, Qg, OpW, QO, aop, undef, AS.ev, Qc, Qn, Qr, QG, Qi, Qw, Qns, QnL, AV.QmP, QB, Xu, QJ, QnF, QnG, Qv, Qt, QC, XC, QnH, QnI, ↓reduceIte, Qny, Qnz, Nat.reduceAdd, Nat.reduceLT, Nat.reduceLeDiff, Nat.reduceEqDiff, Qnx, QnK, QnT, Qp, QK, QL, QZ, aBin, hlen, happ, Qnl, Qnm, Qnn, Qnq, Qno, QnA, QnE, QnN, QnM, QS, Xh, Qnt, Int.toNat_zero, Int.toNat_one, beq_false, T.QmN, T.QmO, ti9, ti22, ei22, ti24, Xx, Xy, ti58, YH, Qn8, QX, f1, f2, f3, f6, ho', hll, ga, gc, z0, z1, z2, b1, b2, b3, b4, hsa1, hsa2, T.QmO, T.QmN]) | (with_reducible (first | refine Qq ?_ | refine QD ?_)) | ((with_reducible refine hK _ ?_); clear hK) | (refine Qk rfl ?_; simp only [↓reduceIte]))
          simp -implicitDefEqProofs only [Qnn, Qnr, List.mapM_nil, Option.pure_def, Qnn, QI, Qm, Qnv]
          exact XU hi hj hij (.keep (.tup _ fun x hx => by cases hx)) ⟨rfl, rfl⟩
    · cases b3 : (oc != 0)
      · have hq1 : q1 = true := by rw [eq1, b1, b2]; rfl
        have hq3 : q3 = false := by rw [eq3, b2, b3]; rfl
        rw [hq1] at c1
        rw [hq3] at c3
        refine Qe Tryz.func35 rfl Tryz.call35 Tryz.ntmps35 (congrArg Array.toList Tryz.results35) (by simp) ?_
        repeat (first | ((first | (with_reducible (first | refine Qa fun K E hK hE => ?_ | refine Qs fun K E hK hE => ?_ | refine Qo ct ?_ | refine QQ ca ?_ | refine QQ cc ?_ | refine FunW.ret (FunW.call c1) ?_ | refine FunW.ret (FunW.call c3) ?_ | refine Xs (FunW.call c2) YY ?_)) | (refine QR (id := 4) [(0, 0), (1, 0), (2, 0), (3, 0), (4, 1), (5, 0), (6, 0), (7, 0), (8, 0), (9, 1), (10, 0), (11, 0)] mixed (by kernel_rfl) fun K hK => ?_) | (refine QR (id := 6) [(0, 0), (1, 0), (2, 0), (3, 0), (4, 0), (5, 0), (6, 0), (7, 2)] mixed (by kernel_rfl) fun K hK => ?_)); simp -implicitDefEqProofs only [Q4, Q1, Xb, Qd, Qb, Qg, OpW, QO, aop, undef, AS.ev, Qc, Qn, Qr, QG, Qi, Qw, Qns, QnL, AV.QmP, QB, Xu, QJ, QnF, QnG, Qv, Qt, QC, XC, QnH, ↓reduceIte, Qny, Qnz, Nat.reduceAdd, Nat.reduceLT, Nat.reduceLeDiff, Nat.reduceEqDiff, Qnx, QnK, QnT, Qp, QK, QL, QZ, aBin, hlen, happ, Qnl, Qnm, Qnn, Qnq, Qno, QnA, QnE, QnN, QnM, QS, Xh, Qnt, Int.toNat_zero, Int.toNat_one, Qnp, beq_true, T.QmN, T.QmO, ti9, ti22, ei22, ti24, Xx, Xy, ti58, YH, Qn8, QX, f1, f2, f3, f6, ho', hll, ga, gc, z0, z1, z2, b1, b2, b3, hsa1, hsa2, T.QmO, T.QmN]) | (with_reducible (first | refine Qq ?_ | refine QD ?_)) | ((with_reducible refine hK _ ?_); clear hK) | (refine Qk rfl ?_; simp only [↓reduceIte]))
        simp -implicitDefEqProofs only [Qnn, Qnr, List.mapM_nil, Option.pure_def, Qnn, QI, Qm, Qnv]
        exact XU hi hj hij (.keep (.tup _ fun x hx => by cases hx)) ⟨rfl, rfl⟩
      · cases b4 : (oc == 1)
        · have hq1 : q1 = true := by rw [eq1, b1, b2]; rfl
          have hq3 : q3 = true := by rw [eq3, b2, b3, b4]; rfl
          rw [hq1] at c1
          rw [hq3] at c3
          refine Qe Tryz.func35 rfl Tryz.call35 Tryz.ntmps35 (congrArg Array.toList Tryz.results35) (by simp) ?_
          repeat (first | ((first | (with_reducible (first | refine Qa fun K E hK hE => ?_ | refine Qs fun K E hK hE => ?_ | refine Qo ct ?_ | refine QQ ca ?_ | refine QQ cc ?_ | refine FunW.ret (FunW.call c1) ?_ | refine FunW.ret (FunW.call c3) ?_ | refine Xs (FunW.call c2) YY ?_)) | (refine QR (id := 4) [(0, 0), (1, 0), (2, 0), (3, 0), (4, 1), (5, 0), (6, 0), (7, 0), (8, 0), (9, 1), (10, 0), (11, 0)] mixed (by kernel_rfl) fun K hK => ?_) | (refine QR (id := 6) [(0, 0), (1, 0), (2, 0), (3, 0), (4, 0), (5, 0), (6, 0), (7, 2)] mixed (by kernel_rfl) fun K hK => ?_)); simp -implicitDefEqProofs only [Q4, Q1, Xb, Qd, Qb, Qg, OpW, QO, aop, undef, AS.ev, Qc, Qn, QG, Qi, Qw, Qns, QnL, AV.QmP, QB, Xu, QJ, QnF, QnG, Qv, Qt, QC, XC, QnH, ↓reduceIte, Qny, Qnz, Nat.reduceAdd, Nat.reduceLT, Nat.reduceLeDiff, Nat.reduceEqDiff, Qnx, QnK, QnT, Qp, QK, QL, QZ, aBin, hlen, happ, Qnl, Qnm, Qnn, Qnq, Qno, QnA, QnE, QnN, QnM, QS, Xh, Qnt, Int.toNat_zero, Int.toNat_one, Qnp, T.QmN, T.QmO, ti9, ti22, ei22, ti24, Xx, Xy, ti58, YH, Qn8, QX, f1, f2, f3, f6, ho', hll, ga, gc, z0, z1, z2, b1, b2, b3, b4, hsa1, hsa2, T.QmO, T.QmN]) | (with_reducible (first | refine Qq ?_ | refine QD ?_)) | ((with_reducible refine hK _ ?_); clear hK) | (refine Qk rfl ?_; simp only [↓reduceIte]))
          simp -implicitDefEqProofs only [Qnn, Qnr, List.mapM_nil, Option.pure_def, Qnn, QI, Qm, Qnv]
          exact XU hi hj hij (.keep (.tup _ fun x hx => by cases hx)) ⟨rfl, rfl⟩
        · have hq1 : q1 = true := by rw [eq1, b1, b2]; rfl
          have hq3 : q3 = true := by rw [eq3, b2, b3, b4]; rfl
          rw [hq1] at c1
          rw [hq3] at c3
          refine Qe Tryz.func35 rfl Tryz.call35 Tryz.ntmps35 (congrArg Array.toList Tryz.results35) (by simp) ?_
          repeat (first | ((first | (with_reducible (first | refine Qa fun K E hK hE => ?_ | refine Qs fun K E hK hE => ?_ | refine Qo ct ?_ | refine QQ ca ?_ | refine QQ cc ?_ | refine FunW.ret (FunW.call c1) ?_ | refine FunW.ret (FunW.call c3) ?_ | refine Xs (FunW.call c2) YY ?_)) | (refine QR (id := 4) [(0, 0), (1, 0), (2, 0), (3, 0), (4, 1), (5, 0), (6, 0), (7, 0), (8, 0), (9, 1), (10, 0), (11, 0)] mixed (by kernel_rfl) fun K hK => ?_) | (refine QR (id := 6) [(0, 0), (1, 0), (2, 0), (3, 0), (4, 0), (5, 0), (6, 0), (7, 2)] mixed (by kernel_rfl) fun K hK => ?_)); simp -implicitDefEqProofs only [Q4, Q1, Xb, Qd, Qb, Qg, OpW, QO, aop, undef, AS.ev, Qc, Qn, Qr, QG, Qi, Qw, Qns, QnL, AV.QmP, QB, Xu, QJ, QnF, QnG, Qv, Qt, QC, XC, QnH, QnI, ↓reduceIte, Qny, Qnz, Nat.reduceAdd, Nat.reduceLT, Nat.reduceLeDiff, Nat.reduceEqDiff, Qnx, QnK, QnT, Qp, QK, QL, QZ, aBin, hlen, happ, Qnl, Qnm, Qnn, Qnq, Qno, QnA, QnE, QnN, QnM, QS, Xh, Qnt, Int.toNat_zero, Int.toNat_one, beq_false, T.QmN, T.QmO, ti9, ti22, ei22, ti24, Xx, Xy, ti58, YH, Qn8, QX, f1, f2, f3, f6, ho', hll, ga, gc, z0, z1, z2, b1, b2, b3, b4, hsa1, hsa2, T.QmO, T.QmN]) | (with_reducible (first | refine Qq ?_ | refine QD ?_)) | ((with_reducible refine hK _ ?_); clear hK) | (refine Qk rfl ?_; simp only [↓reduceIte]))
          simp -implicitDefEqProofs only [Qnn, Qnr, List.mapM_nil, Option.pure_def, Qnn, QI, Qm, Qnv]
          exact XU hi hj hij (.keep (.tup _ fun x hx => by cases hx)) ⟨rfl, rfl⟩
end Go.Proofs.YtehjodmnajgdgaaGreatDoor.Ab
set_option maxRecDepth 4000
namespace Go.Proofs.YtehjodmnajgdgaaGreatDoor.Ab
open Go.Proofs
theorem ZL (h : AH) (_ : 3 = 3) : Keep h h := Keep.refl h
theorem QjX {h : AH} {i j : Nat} (hi : i < h.length) (hj : j < h.length) (hij : i ≠ j) (t : T) (ho : t.oper = 0) (hl : t.args.length ≤ 1000000)
    (l0 : t.kind = 0 → -9223372036854775807 ≤ t.int ∧ t.int ≤ 9223372036854775807) (l1 : t.kind = 1 → 0 ≤ t.int ∧ t.int ≤ 1048576)
    (ih : ∀ a ∈ t.args, TIh i j a) (hG : XT (HB h i j true (.empty))) (u : Bool) (tx : ByteArray)
    (s : ByteArray) (es : s = if t.kind = 0 then decZ t.int else if t.kind = 1 then vOf (decN t.int.toNat) else funT t.name (txts t.args)) (hs : tx.size + s.size ≤ 140737488355328) :
    Wri 35 [.ptr i 0 0, t.av] h i j u tx s := by
  have eav : t.av = .agg [.i t.kind, .i t.int, .v (.string t.name), .sl 4 (avs t.args) none] := by cases t; rfl
  obtain ⟨L, hL⟩ : ∃ L : AH, L = [AB.cells 58 1 [.ptr i 0 0], AB.cells 24 4 [t.av]] := ⟨_, rfl⟩
  have hlL : (h ++ L).length = h.length + 2 := by rw [hL]; simp
  have hi' : i < (h ++ L).length := by omega
  have hj' : j < (h ++ L).length := by omega
  have gapp := fun (u : Bool) (tx : ByteArray) (L : AH) => Qie (h := h) (i := i) (j := j) hi hj u tx L
  have hG' : XT (HB (h ++ L) i j true (.empty)) := by rw [gapp]; exact HasG.app hG _
  have hG2 : XT (HB (h ++ L) i j u tx) := QmC hij hG'
  have ct := Qbu t (by simp only [maxLen]; omega)
  rw [ho, eav] at ct
  have f1 := Qfb h i j
  have f2 := fun u tx L => QeE h i j u tx L
  have f3 := fun u tx L => QgM h i j u tx L
  have f6 := fun u tx L => QdT (h := h) hi hij u tx L
  by_cases k0 : t.kind = 0
  · rw [if_pos k0] at es
    rw [k0] at eav ct
    have c1 := QiV t.int (by have := l0 k0; omega) (l0 k0).2 _ hG2
    have c2 := wstr (h := h ++ L) hi' hj' hij u tx s hs
    rw [es] at c2
    rw [gapp, hL, eav] at c1
    rw [gapp, gapp, hL, eav] at c2
    rw [eav, es]
    refine Qe Tryz.func35 rfl Tryz.call35 Tryz.ntmps35 (congrArg Array.toList Tryz.results35) (by simp) ?_
    repeat (first | ((first | (with_reducible (first | refine Qa fun K E hK hE => ?_ | refine Qo ct ?_ | refine Xs (FunW.call c1) (ZL _) ?_ | refine Xs (FunW.call c2) YY ?_)) | (refine XE (id := 9) [(0, 0), (1, 0), (2, 0), (3, 0), (4, 0), (5, 3), (6, 2)] mixed (by kernel_rfl) fun K hK => ?_)); simp -implicitDefEqProofs only [Q4, Q1, Xb, Qd, Qb, Qg, OpW, QO, aop, undef, AS.ev, Qc, Qn, Qi, Qw, Qns, QnL, AV.QmP, QB, Xu, QJ, QnF, QnG, Qv, Qt, QC, XC, QnH, ↓reduceIte, Qny, Qnz, Nat.reduceAdd, Nat.reduceLT, Nat.reduceLeDiff, Nat.reduceEqDiff, Qnx, QnK, QnT, Qp, QK, QL, aBin, hlen, happ, Qnl, Qnm, Qnn, Qno, QnA, QnE, QnN, QnM, QS, Xh, Qnt, Qn6, ti3, ti24, Xq, XG, ti58, YH, QX, f1, f2, f3, f6]) | (with_reducible (first | refine Qq ?_ | refine QD ?_)) | ((with_reducible refine hK _ ?_); clear hK) | (refine Qk rfl ?_; simp only [↓reduceIte, Qnp]))
    simp -implicitDefEqProofs only [Qnn, Qnr, List.mapM_nil, Option.pure_def, Qnn, QI, Qm, Qnv]
    exact XU hi hj hij (.keep (.tup _ fun x hx => by cases hx)) ⟨rfl, rfl⟩
  · rw [if_neg k0] at es
    have m0 : (t.kind == 0) = false := by simpa using k0
    by_cases k1 : t.kind = 1
    · rw [if_pos k1] at es
      rw [k1] at eav ct
      have z1 : ((1 : Int) == 0) = false := by decide
      have en : t.int = (t.int.toNat : Int) := by have := l1 k1; omega
      have c1 := QeH t.int.toNat (by have := l1 k1; omega) _ hG2
      rw [← en] at c1
      have c2 := wstr (h := h ++ L) hi' hj' hij u tx s hs
      rw [es] at c2
      rw [gapp, hL, eav] at c1
      rw [gapp, gapp, hL, eav] at c2
      rw [eav, es]
      refine Qe Tryz.func35 rfl Tryz.call35 Tryz.ntmps35 (congrArg Array.toList Tryz.results35) (by simp) ?_
      repeat (first | ((first | (with_reducible (first | refine Qa fun K E hK hE => ?_ | refine Qo ct ?_ | refine Xs (FunW.call c1) (ZL _) ?_ | refine Xs (FunW.call c2) YY ?_)) | (refine XE (id := 11) [(0, 0), (1, 0), (2, 0), (3, 0), (4, 0), (5, 3), (6, 2)] mixed (by kernel_rfl) fun K hK => ?_)); simp -implicitDefEqProofs only [Q4, Q1, Xb, Qd, Qb, Qg, OpW, QO, aop, undef, AS.ev, Qc, Qn, Qi, Qw, Qns, QnL, AV.QmP, QB, Xu, QJ, QnF, QnG, Qv, Qt, QC, XC, QnH, ↓reduceIte, Qny, Qnz, Nat.reduceAdd, Nat.reduceLT, Nat.reduceLeDiff, Nat.reduceEqDiff, Qnx, QnK, QnT, Qp, QK, QL, aBin, hlen, happ, Qnl, Qnm, Qnn, Qno, QnA, QnE, QnN, QnM, QS, Xh, Qnt, Qn6, ti3, ti24, Xq, XG, ti58, YH, QX, f1, f2, f3, f6, z1]) | (with_reducible (first | refine Qq ?_ | refine QD ?_)) | ((with_reducible refine hK _ ?_); clear hK) | (refine Qk rfl ?_; simp only [↓reduceIte, Qnp]))
      simp -implicitDefEqProofs only [Qnn, Qnr, List.mapM_nil, Option.pure_def, Qnn, QI, Qm, Qnv]
      exact XU hi hj hij (.keep (.tup _ fun x hx => by cases hx)) ⟨rfl, rfl⟩
    · rw [if_neg k1] at es
      have m1 : (t.kind == 1) = false := by simpa using k1
      have c1 := ZM (h := h ++ L) hi' hj' hij t.args hl t.name (fun a ha h hi hj hG tx hs => ih a ha h hi hj hG true tx hs) hG' u tx (by rw [← es]; exact hs)
      rw [Wri, ← es, gapp, gapp, hL, eav] at c1
      rw [eav]
      refine Qe Tryz.func35 rfl Tryz.call35 Tryz.ntmps35 (congrArg Array.toList Tryz.results35) (by simp) ?_
      repeat (first | ((first | (with_reducible (first | refine Qa fun K E hK hE => ?_ | refine Qs fun K E hK hE => ?_ | refine Qo ct ?_ | refine FunW.ret (FunW.call c1) ?_))); simp -implicitDefEqProofs only [Qd, Qb, Qg, OpW, QO, aop, undef, AS.ev, Qc, Qn, Qi, Qw, Qns, QnL, AV.QmP, QB, Xu, QJ, QnF, QnG, Qv, Qt, QC, XC, QnH, ↓reduceIte, Qny, Qnz, Nat.reduceAdd, Nat.reduceLT, Nat.reduceEqDiff, Qnx, QnK, QnT, Qp, QK, QL, aBin, hlen, happ, Qnl, Qnm, Qnn, QnA, QnE, QnN, QnM, QS, Xh, Qn6, ti3, ti9, ti22, ti24, Xq, Xx, Xy, ti58, f1, f2, f3, m0, m1]) | (with_reducible (first | refine Qq ?_ | refine QD ?_)) | ((with_reducible refine hK _ ?_); clear hK) | (refine Qk rfl ?_; simp only [↓reduceIte, Qnp]))
      simp -implicitDefEqProofs only [Qnn, Qnr, List.mapM_nil, Option.pure_def, Qnn, QI, Qm, Qnv]
      exact XU hi hj hij (.keep (.tup _ fun x hx => by cases hx)) ⟨rfl, rfl⟩
mutual
theorem T.Qm2 : ∀ (t : T), t.lex → ∀ (i j : Nat), i ≠ j → TIh i j t
  | .mk k x n l, hx, i, j, hij => fun h hi hj hG u tx hs => by
    obtain ⟨l0, l1, hl, hn, hll⟩ := hx
    have ih := Qbz l hll i j hij
    by_cases ho : (T.mk k x n l).oper = 0
    · have es : (T.mk k x n l).txt = if k = 0 then decZ x else if k = 1 then vOf (decN x.toNat) else funT n (txts l) := by rw [T.txt, if_neg (by simpa using ho)]
      exact QjX hi hj hij (T.mk k x n l) ho hl l0 l1 ih hG u tx _ es hs
    · have hk : k = 2 ∧ l.length = 2 ∧ ofB n ≠ 0 := by
        simp only [T.oper] at ho
        split at ho
        · exact absurd rfl ho
        · rename_i hq
          exact ⟨Decidable.byContradiction fun e => hq (.inl e), Decidable.byContradiction fun e => hq (.inr e), ho⟩
      obtain ⟨rfl, h2, hon⟩ := hk
      match l, h2, hll, ih with
      | [a, c], _, hll, ih =>
        have et : (T.mk 2 x n [a, c]).txt = binT (ofB n) n a.oper c.oper a.txt c.txt := by rw [T.txt, if_pos ho]; rfl
        rw [et] at hs ⊢
        have la : a.args.length ≤ 1000000 := by cases a; exact hll.1.2.2.1
        have lc : c.args.length ≤ 1000000 := by cases c; exact hll.2.1.2.2.1
        exact QlG hi hj hij n x a c hn hon la lc (ih a (by simp)) (ih c (by simp)) hG u tx hs
theorem Qbz : ∀ (l : List T), lexL l → ∀ (i j : Nat), i ≠ j → ∀ a ∈ l, TIh i j a
  | [], _, _, _, _, a, ha => by cases ha
  | t :: l, hx, i, j, hij, a, ha => by
    have h1 := T.Qm2 t hx.1 i j hij
    have h2 := Qbz l hx.2 i j hij
    rcases List.mem_cons.1 ha with e | e
    · rw [e]; exact h1
    · exact h2 a e
end
end Go.Proofs.YtehjodmnajgdgaaGreatDoor.Ab
namespace Go.Proofs.YtehjodmnajgdgaaGreatDoor.Ab
theorem Qmx {c : Cx} (hst : St c) (id ty e : Nat) (p : Value) (hb : c.h[id]? = some (.cells ty 2 [.agg [.v p, .v (.slice none 0 0)]])) :
    ∃ c2, Ev c c2 ∧ St c2 ∧ c2.h = (c.h ++ [AB.grow e 1 0]).set id (AB.cells ty 2 [.agg [.v p, .sl 1 [] (some c.h.length)]]) ∧ c2.w = c.w := by
  obtain ⟨hev, hst1⟩ := Qkj hst e 1
  have hlt := QN hb
  have hb1 : (c.add c.w (.grow e 1 0) none).h[id]? = some (.cells ty 2 [.agg [.v p, .v (.slice none 0 0)]]) := by
    simp only [Cx.add]; rw [List.getElem?_append_left hlt]; exact hb
  obtain ⟨B, cur, hρ, hcur, h3, h4⟩ := hst1.blocks id _ hb1
  have hev2 := Ev.turn (b' := .cells ty 2 [.agg [.v p, .sl 1 [] (some c.h.length)]]) hst1 hb1 rfl hρ (w := c.w) rfl rfl rfl rfl (fun _ _ => rfl) (.inr ⟨_, rfl, rfl, fun _ cur _ h => ⟨cur, h, rfl⟩⟩)
  have htok : ((c.add c.w (.grow e 1 0) none).turn c.w id (.cells ty 2 [.agg [.v p, .sl 1 [] (some c.h.length)]])).tokNil c.h.length 1 := by
    refine ⟨by simp [Cx.turn, Cx.add], fun e2 s2 n2 hg2 => ?_⟩
    simp only [Cx.turn, Cx.add] at hg2
    rw [List.getElem?_set_ne (by omega), List.getElem?_append_right (Nat.le_refl _), Nat.sub_self] at hg2
    simp at hg2
    exact ⟨hg2.2.1.symm, fun _ => by simp [Cx.turn, Cx.add]⟩
  have hfl : flat [AV.agg [.v p, .v (.slice none 0 0)]] = [.v p, .v (.slice none 0 0)] := rfl
  have hst2 := St.turn (b' := .cells ty 2 [.agg [.v p, .sl 1 [] (some c.h.length)]]) hst1 hb1 rfl hρ (w := c.w) (fun _ _ => rfl) hev2 ⟨B, cur, hρ, hcur, (by simp [AV.cells]), by
    intro j a' hj
    have hj' : [AV.v p, .sl 1 [] (some c.h.length)][j]? = some a' := hj
    match j with
    | 0 =>
      simp only [Qnl, Qnr] at hj'
      subst hj'
      obtain ⟨u, g1, g2, g3⟩ := h4 0 (.v p) (by rw [hfl]; rfl)
      exact ⟨u, g1, g2, g3.ev hst1 hev2⟩
    | 1 =>
      simp only [Qnm, Qnl, Qnr] at hj'
      subst hj'
      obtain ⟨u, g1, g2, g3⟩ := h4 1 (.v (.slice none 0 0)) (by rw [hfl]; rfl)
      cases g3
      exact ⟨_, g1, g2, .slnil _ _ fun b hb => by cases hb; exact htok⟩
    | j + 2 => simp at hj'⟩
  exact ⟨_, Ev.trans hst hev hev2, hst2, rfl, rfl⟩
theorem QhD {P : Program} {fv : AV} {args : List AV} {h : AH} {Q : AOut → AH → Prop} (id ty e : Nat) (p : Value) (hb : h[id]? = some (.cells ty 2 [.agg [.v p, .v (.slice none 0 0)]]))
    (H : FunW P fv args ((h ++ [AB.grow e 1 0]).set id (AB.cells ty 2 [.agg [.v p, .sl 1 [] (some h.length)]])) Q) : FunW P fv args h Q := by
  intro F n c v vals hF hs hh hv hvs o a next Qx h1 h2
  subst hh
  obtain ⟨c2, hev, hst2, hh2, hw⟩ := Qmx hs id ty e p hb
  rw [← hw]
  exact H F n c2 v vals hF hst2 hh2 (hv.ev hs hev) (hvs.ev hs hev) o a next Qx (fun r c' x hQ he => h1 r c' x hQ (Ev.trans hs hev he)) (fun r c' x hQ he => h2 r c' x hQ (Ev.trans hs hev he))
end Go.Proofs.YtehjodmnajgdgaaGreatDoor.Ab
set_option maxRecDepth 4000
namespace Go.Proofs.YtehjodmnajgdgaaGreatDoor.Ab
open Go.Proofs
theorem Qhq (fv : AV) : Pure Tryz.prog 32 [.b false, fv] (.v (.string { data := #[] })) := by
  intro h
  refine Qe Tryz.func32 rfl Tryz.call32 Tryz.ntmps32 (congrArg Array.toList Tryz.results32) (by simp) ?_
  repeat (first | (((with_reducible refine Qa fun K E hK hE => ?_)); simp -implicitDefEqProofs only [Qd, Qb, Qg, OpW, aop, undef, AS.ev, Qc, QG, Qi, Qw, Qns, QnJ, ↓reduceIte, Nat.reduceLT, Nat.reduceEqDiff, Qnn, Xa]) | (with_reducible (first | refine Qh fun K hK => ?_ | refine Ql ?_ | refine Qy ?_)) | ((with_reducible refine hK _ ?_); clear hK) | (refine Qk rfl ?_; simp only [↓reduceIte]))
  simp only [QI, Qm, Qu, upd, ↓reduceIte, Qnr, Qnv]; first | refine Qf (htake _ _) (.keep (.v _)) ⟨rfl, rfl⟩ | refine Qf List.take_length (.keep (.v _)) ⟨rfl, rfl⟩
theorem QfY (fv r : AV) (s : ByteArray) (h : AH) (h0 : 0 < s.size) (hs : s.size ≤ 140737488355328)
    (hw : FunW Tryz.prog fv [.ptr h.length 0 0] (HB (h ++ [AB.dead, AB.dead]) h.length (h.length + 1) false .empty) fun o h' => o = .ret r ∧ h' = HB (h ++ [AB.dead, AB.dead]) h.length (h.length + 1) true s) :
    Xd Tryz.prog 32 [.b true, fv] h fun o h' => o = .ret (.v (.string s)) ∧ h' = h := by
  have hi : h.length < (h ++ [AB.dead, AB.dead]).length := by simp
  have hj : h.length + 1 < (h ++ [AB.dead, AB.dead]).length := by simp
  have e0 : HB (h ++ [AB.dead, AB.dead]) h.length (h.length + 1) false .empty = h ++ [AB.cells 71 2 [.agg [.v (.pointer none), .sl 1 [] (some (h.length + 1))]], AB.grow 5 1 0] := by
    simp [HB, hs2, bw]; rfl
  have e1 : HB (h ++ [AB.dead, AB.dead]) h.length (h.length + 1) true s = h ++ [bw 71 h.length (h.length + 1) true s, AB.grow 5 1 s.size] := by
    simp [HB, hs2]
  have c1 := Qi7 (ty := 71) (i := h.length) (j := h.length + 1) (by omega) s h0 hs (h ++ [AB.dead, AB.dead]) hi hj
  have e2 : hs2 (h ++ [AB.dead, AB.dead]) h.length (bw 71 h.length (h.length + 1) true s) (h.length + 1) .gone = h ++ [bw 71 h.length (h.length + 1) true s, AB.gone] := by
    simp [hs2]
  rw [e2, ← HB, e1] at c1
  rw [e1, e0] at hw
  refine Qe Tryz.func32 rfl Tryz.call32 Tryz.ntmps32 (congrArg Array.toList Tryz.results32) (by simp) ?_
  repeat (first | (((with_reducible refine Qa fun K E hK hE => ?_)); simp -implicitDefEqProofs only [Qd, Qb, Qg, OpW, aop, undef, AS.ev, Qc, QG, Qi, Qw, Qns, QnL, AV.QmP, QB, QnF, QnG, QM, YX, QnH, QnI, ↓reduceIte, Qny, Qnz, Nat.reduceAdd, Nat.reduceLT, Nat.reduceEqDiff, Qnx, Qnn, QnA, QnE, Xa, zi71]) | (with_reducible (first | refine Qh fun K hK => ?_ | refine QA ?_ | refine Qj ?_)) | ((with_reducible refine hK _ ?_); clear hK) | (refine Qk rfl ?_; simp only [↓reduceIte, Qnp]))
  refine QhD h.length 71 5 (.pointer none) (by simp) ?_
  refine FunW.ret (h' := h ++ [bw 71 h.length (h.length + 1) true s, AB.grow 5 1 s.size]) (r := r) (by simpa using hw) ?_
  rw [bw1] at c1 ⊢
  simp -implicitDefEqProofs only [Qd, QO, Qc, Nat.reduceLT]
  repeat (first | ((first | (with_reducible (first | refine Qa fun K E hK hE => ?_ | refine FunW.ret (FunW.call c1) ?_))); simp -implicitDefEqProofs only [Qd, Qb, Qg, OpW, QO, aop, AS.ev, Qc, Qi, ↓reduceIte, Nat.reduceLT, Nat.reduceEqDiff, QnK, Qp, QT, Qnl, Qnn, QnA, QnE, YH]) | (with_reducible refine Ql ?_) | ((with_reducible refine hK _ ?_); clear hK))
  simp only [QI, Qm, Qu, upd, ↓reduceIte, Qnr, Qnv]; first | refine Qf (htake _ _) (.keep (.v _)) ⟨rfl, rfl⟩ | refine Qf List.take_length (.keep (.v _)) ⟨rfl, rfl⟩
end Go.Proofs.YtehjodmnajgdgaaGreatDoor.Ab
set_option maxRecDepth 4000
namespace Go.Proofs.YtehjodmnajgdgaaGreatDoor.Ab
open Go.Proofs
def XV (s : ByteArray) : Bool := decide (QbA 1 s) && !resB s
def YU (s : ByteArray) : Bool := s.toList == ({ data := #[] } : ByteArray).toList
mutual
def T.run : T → Int → Int → Bool × Int
  | .mk k i n l, b, d =>
    if b - 1 < 0 ∨ d < 1 then (false, b - 1) else
    if k = 0 then (decide (-2147483648 ≤ i ∧ i ≤ 2147483648) && YU n && l.isEmpty, b - 1) else
    if k = 1 then (decide (0 ≤ i ∧ i ≤ 1048576) && YU n && l.isEmpty, b - 1) else
    if k = 2 then (if i ≠ 0 ∨ 6 < l.length then (false, b - 1) else if (!XV n && !(opB n && decide (l.length = 2))) = true then (false, b - 1) else runL l (b - 1) (d - 1)) else (false, b - 1)
def runL : List T → Int → Int → Bool × Int
  | [], b, d => (true, b)
  | t :: l, b, d => if (t.run b d).1 = true then runL l (t.run b d).2 d else (false, (t.run b d).2)
end
theorem T.run_eq (t : T) (b d : Int) : t.run b d = if b - 1 < 0 ∨ d < 1 then (false, b - 1) else
    if t.kind = 0 then (decide (-2147483648 ≤ t.int ∧ t.int ≤ 2147483648) && YU t.name && t.args.isEmpty, b - 1) else
    if t.kind = 1 then (decide (0 ≤ t.int ∧ t.int ≤ 1048576) && YU t.name && t.args.isEmpty, b - 1) else
    if t.kind = 2 then (if t.int ≠ 0 ∨ 6 < t.args.length then (false, b - 1) else if (!XV t.name && !(opB t.name && decide (t.args.length = 2))) = true then (false, b - 1) else runL t.args (b - 1) (d - 1)) else (false, b - 1) := by
  cases t; rw [T.run]; rfl
theorem Qkx {l : List T} {k : Nat} (h : k < l.length) (b d : Int) : runL (l.drop k) b d = if ((l[k]).run b d).1 = true then runL (l.drop (k + 1)) ((l[k]).run b d).2 d else (false, ((l[k]).run b d).2) := by
  rw [List.drop_eq_getElem_cons h]; simp only [runL]
def bud (b : Int) : AB := .cells 91 1 [.agg [.i b]]
theorem Qjl (d : Int) (ih : ∀ (t : T) (b : Int) (i : Nat), -1 ≤ b → b ≤ 1000 → Chg Tryz.prog 67 [.ptr i 0 0, t.av, .i d] i (bud b) (.b (t.run b d).1) (bud (t.run b d).2))
    (l : List T) (hl : l.length ≤ 1000) (b : Int) (i : Nat) (hb : -1 ≤ b ∧ b ≤ 1000) (hr : ∀ (t : T) (b : Int), -1 ≤ b ∧ b ≤ 1000 → (t.run b d).1 = true → -1 ≤ (t.run b d).2 ∧ (t.run b d).2 ≤ 1000) :
    Chg Tryz.prog 78 [.ptr i 0 0, .sl 4 (avs l) none, .i d] i (bud b) (.b (runL l b d).1) (bud (runL l b d).2) := by
  intro h hi
  have f1 := fun x => X3 h i x
  refine Qe Tryz.func78 rfl Tryz.call78 Tryz.ntmps78 (congrArg Array.toList Tryz.results78) (by simp) ?_
  repeat (first | (((with_reducible refine Qa fun K E hK hE => ?_)); simp -implicitDefEqProofs only [Qd, Qb, Qg, OpW, aop, undef, AS.ev, Qc, Qn, Qr, Qi, Qw, Qns, QnL, ↓reduceIte, Nat.reduceLT, Nat.reduceEqDiff, aLen, Qnn, goInt, QH, un22, QH]) | (with_reducible (first | refine Qh fun K hK => ?_ | refine Qq ?_)) | ((with_reducible refine hK _ ?_); clear hK))
  obtain ⟨I, hI⟩ : ∃ I : Nat → AS → Prop, I = fun m' s => ∃ (k : Nat) (b' : Int), m' = l.length - k ∧ k ≤ l.length ∧ (-1 ≤ b' ∧ b' ≤ 1000) ∧ runL l b d = runL (l.drop k) b' d ∧ s.tm 0 = .ptr i 0 0 ∧ s.tm 1 = .sl 4 (avs l) none ∧ s.tm 2 = .i d ∧ s.tm 9 = .i l.length ∧ s.tm 10 = .i k ∧ s.h = hs h i (bud b') := ⟨_, rfl⟩; refine XM I ?_ (m := l.length) ?_
  · intro m' s hs; rw [hI] at hs; obtain ⟨tm, hp⟩ := s; dsimp only at hs; obtain ⟨k, b', rfl, hk, hb', he, t0, t1, t2, t9, t10, rfl⟩ := hs
    by_cases hlt : k < l.length
    · have hg := Y3 hlt
      have c := ih l[k] b' i hb'.1 hb'.2 h hi
      rw [Qkx hlt] at he
      cases hr1 : ((l[k]).run b' d).1 with
      | true =>
        rw [hr1] at c he
        repeat (first | ((first | (with_reducible (first | refine Qa fun K E hK hE => ?_ | refine Qs fun K E hK hE => ?_ | refine FunW.ret (FunW.call c) ?_))); simp -implicitDefEqProofs only [Qd, Qb, Qg, OpW, QO, aop, AS.ev, Qc, Qn, Qi, QnI, ↓reduceIte, Qny, Qnz, Nat.reduceAdd, Nat.reduceLT, Nat.reduceEqDiff, Qnx, QnT, QK, QL, QZ, aBin, Qnn, QnA, QnE, Q0, X8, Xa, QnR, QnY, QnX, Qn9, T.QmN, T.QmO, QH, ei22, ti24, t0, t1, t2, t9, t10, hlt, hg, T.QmO, T.QmN]) | (with_reducible (first | refine Qh fun K hK => ?_ | refine Qq ?_ | refine QA ?_ | refine Qj ?_ | refine QD ?_)) | ((with_reducible refine hK _ ?_); clear hK) | (refine Qk rfl ?_; simp only [↓reduceIte, Qnp]))
        refine Yr.mk (m' := l.length - (k + 1)) (by omega) ?_
        rw [hI]
        refine ⟨k + 1, _, rfl, hlt, hr _ _ hb' hr1, by rw [he, if_pos rfl], t0, t1, t2, t9, ?_, rfl⟩
        simp only [upd, ↓reduceIte]
        rw [Yd (by omega)]
      | false =>
        rw [hr1] at c he
        rw [if_neg (by simp)] at he
        repeat (first | ((first | (with_reducible (first | refine Qa fun K E hK hE => ?_ | refine FunW.ret (FunW.call c) ?_))); simp -implicitDefEqProofs only [Qd, Qb, Qg, OpW, QO, aop, AS.ev, Qc, Qr, Qi, QnJ, ↓reduceIte, Qny, Qnz, Nat.reduceAdd, Nat.reduceLT, Nat.reduceEqDiff, Qnx, QnT, QK, QL, QZ, aBin, Qnn, QnA, QnE, Q0, Xa, QnR, QnY, QnX, Qn9, T.QmN, T.QmO, QH, ei22, ti24, t0, t1, t2, t9, t10, hlt, hg, T.QmO, T.QmN]) | (with_reducible (first | refine Qh fun K hK => ?_ | refine Qq ?_ | refine Ql ?_ | refine QA ?_ | refine Qj ?_ | refine Qy ?_ | refine QF ?_)) | ((with_reducible refine hK _ ?_); clear hK) | (refine Qk rfl ?_; simp only [↓reduceIte]))
        simp only [QI, Qm, Qu, upd, ↓reduceIte, Qnr, Qnv]
        rw [he]
        exact .inr ⟨rfl, rfl⟩
    · have hkn : k = l.length := by omega
      subst hkn
      rw [List.drop_length] at he
      repeat (first | (((with_reducible refine Qa fun K E hK hE => ?_)); simp -implicitDefEqProofs only [Qd, Qb, Qg, OpW, aop, AS.ev, Qc, Qr, Nat.reduceLT, aBin, Qnn, Q0, QnS, Qn9, t9, t10, hlt]) | (with_reducible (first | refine Qh fun K hK => ?_ | refine Ql ?_ | refine Xj ?_ | refine Qj ?_ | refine Q9 ?_ | refine Q8 ?_)) | ((with_reducible refine hK _ ?_); clear hK) | (clear hK; (with_reducible refine hK _ ?_); clear hK) | (refine Qk rfl ?_; simp only [↓reduceIte, Qnp]))
      simp only [QI, Qm, Qu, upd, ↓reduceIte, Qnr, Qnv]
      rw [he]
      exact .inr ⟨rfl, rfl⟩
  · rw [hI]
    exact ⟨0, b, rfl, by omega, hb, rfl, rfl, rfl, rfl, rfl, rfl, rfl⟩
mutual
theorem T.Qm8 : ∀ (t : T) (b d : Int), -1 ≤ b ∧ b ≤ 1000 → (t.run b d).1 = true → -1 ≤ (t.run b d).2 ∧ (t.run b d).2 ≤ 1000
  | .mk k i n l, b, d, hb, h => by
    rw [T.run] at h ⊢
    split at h
    · cases h
    rename_i hn
    rw [if_neg hn]
    split at h
    · rename_i hk; rw [if_pos hk]; exact ⟨by simp only; omega, by simp only; omega⟩
    rename_i hk; rw [if_neg hk]
    split at h
    · rename_i hk; rw [if_pos hk]; exact ⟨by simp only; omega, by simp only; omega⟩
    rename_i hk; rw [if_neg hk]
    split at h
    · rename_i hk2
      rw [if_pos hk2]
      split at h
      · cases h
      rename_i hk; rw [if_neg hk]
      split at h
      · cases h
      rename_i hk; rw [if_neg hk]
      exact QdX l _ _ (by omega) h
    · cases h
theorem QdX : ∀ (l : List T) (b d : Int), -1 ≤ b ∧ b ≤ 1000 → (runL l b d).1 = true → -1 ≤ (runL l b d).2 ∧ (runL l b d).2 ≤ 1000
  | [], b, d, hb, h => by simpa only [runL] using hb
  | t :: l, b, d, hb, h => by
    rw [runL] at h ⊢
    split at h
    · rename_i ht
      rw [if_pos ht]
      exact QdX l _ _ (T.Qm8 t b d hb ht) h
    · cases h
end
theorem XK (n : Nat) (b : Int) : (bud b).Below n := fun a ha => by
  simp [flat, AV.cells] at ha
  subst ha; exact .v _
theorem QgQ : ∀ (dn : Nat) (t : T) (b : Int) (i : Nat), dn ≤ 1000 → -1 ≤ b → b ≤ 1000 → Chg Tryz.prog 67 [.ptr i 0 0, t.av, .i (dn : Int)] i (bud b) (.b (t.run b dn).1) (bud (t.run b dn).2) := by
  intro dn
  induction dn with
  | zero =>
    intro t b i hdn hb0 hb1 h hi
    have w1 : IntKind.i64.wrap (b - 1) = b - 1 := XW (by omega)
    have f1 := fun x L => Qei hi x L
    have f2 := fun x y L => QeD hi x y L
    have f3 := fun x L => ZN (h := h) (i := i) x L
    have f4 := fun x => X3 h i x
    have fb : ∀ b, bud b = .cells 91 1 [.agg [.i b]] := fun _ => rfl
    by_cases m0 : b - 1 < 0
    · have hn : (b - 1 < 0 ∨ ((0 : Nat) : Int) < 1) := .inl m0
      have R : t.run b ((0 : Nat) : Int) = (false, b - 1) := by
        rw [T.run_eq, if_pos hn]
      rw [R]
      refine Qe Tryz.func67 rfl Tryz.call67 Tryz.ntmps67 (congrArg Array.toList Tryz.results67) (by simp) ?_
      repeat (first | (((with_reducible refine Qa fun K E hK hE => ?_)); simp -implicitDefEqProofs only [Qd, Qb, Qg, OpW, aop, undef, AS.ev, Qc, QV, Qn, Qr, Qi, Qw, Qns, QnL, AV.QmP, QB, QU, QJ, Xp, QnF, QnG, Qv, Qt, QC, QnH, QnI, ↓reduceIte, Qny, Qnz, Nat.reduceAdd, Nat.reduceLT, Nat.reduceLeDiff, Nat.reduceEqDiff, Qnx, QnK, QnU, QnT, Qp, QK, QL, Q5, QW, aBin, Qnl, Qnm, QnP, Qnn, Qnq, Qno, QnM, QnO, QnD, Qnu, QnC, Q0, XY, QnR, Qn7, Qnp, beq_false, T.QmN, ti3, YV, QX, w1, f1, f2, f4, fb, m0, T.QmN]) | (with_reducible (first | refine Qh fun K hK => ?_ | refine Ql ?_ | refine Qy ?_)) | ((with_reducible refine hK _ ?_); clear hK) | (refine Qk rfl ?_; simp only [↓reduceIte]))
      simp only [QI, Qm, Qu, upd, ↓reduceIte, Qnr, Qnv]
      exact Xc (XK _ _) (.keep (.v _)) ⟨rfl, rfl⟩
    · have hn : (b - 1 < 0 ∨ ((0 : Nat) : Int) < 1) := .inr (by omega)
      have d0 : (0 : Int) < 1 := by omega
      have R : t.run b ((0 : Nat) : Int) = (false, b - 1) := by
        rw [T.run_eq, if_pos hn]
      rw [R]
      refine Qe Tryz.func67 rfl Tryz.call67 Tryz.ntmps67 (congrArg Array.toList Tryz.results67) (by simp) ?_
      repeat (first | (((with_reducible refine Qa fun K E hK hE => ?_)); simp -implicitDefEqProofs only [Qd, Qb, Qg, OpW, aop, undef, AS.ev, Qc, QV, Qn, Qr, Qi, Qw, Qns, QnL, AV.QmP, QB, QU, QJ, Xp, QnF, QnG, Qv, Qt, QC, QnH, ↓reduceIte, Qny, Qnz, Nat.reduceAdd, Nat.reduceLT, Nat.reduceLeDiff, Nat.reduceEqDiff, Qnx, QnK, QnU, QnT, Qp, QK, QL, Q5, QW, aBin, Qnl, Qnm, QnP, Qnn, Qnq, Qno, QnM, QnO, QnD, Qnu, QnC, Q0, XY, QnR, QnS, Qnt, Qn7, Qnp, T.QmN, ti3, YV, QX, w1, f1, f2, f4, fb, m0, d0, T.QmN]) | (with_reducible (first | refine Qh fun K hK => ?_ | refine Ql ?_ | refine Qy ?_)) | ((with_reducible refine hK _ ?_); clear hK) | (refine Qk rfl ?_; simp only [↓reduceIte]))
      simp only [QI, Qm, Qu, upd, ↓reduceIte, Qnr, Qnv]
      exact Xc (XK _ _) (.keep (.v _)) ⟨rfl, rfl⟩
  | succ dn ih =>
    intro t b i hdn hb0 hb1 h hi
    have w1 : IntKind.i64.wrap (b - 1) = b - 1 := XW (by omega)
    have f1 := fun x L => Qei hi x L
    have f2 := fun x y L => QeD hi x y L
    have f3 := fun x L => ZN (h := h) (i := i) x L
    have f4 := fun x => X3 h i x
    have fb : ∀ b, bud b = .cells 91 1 [.agg [.i b]] := fun _ => rfl
    have wd : IntKind.i64.wrap (((dn + 1 : Nat) : Int) - 1) = (dn : Int) := by rw [XW (by omega)]; omega
    by_cases m0 : b - 1 < 0
    · have hn : (b - 1 < 0 ∨ ((dn + 1 : Nat) : Int) < 1) := .inl m0
      have R : t.run b ((dn + 1 : Nat) : Int) = (false, b - 1) := by
        rw [T.run_eq, if_pos hn]
      rw [R]
      refine Qe Tryz.func67 rfl Tryz.call67 Tryz.ntmps67 (congrArg Array.toList Tryz.results67) (by simp) ?_
      repeat (first | (((with_reducible refine Qa fun K E hK hE => ?_)); simp -implicitDefEqProofs only [Qd, Qb, Qg, OpW, aop, undef, AS.ev, Qc, QV, Qn, Qr, Qi, Qw, Qns, QnL, AV.QmP, QB, QU, QJ, Xp, QnF, QnG, Qv, Qt, QC, QnH, QnI, ↓reduceIte, Qny, Qnz, Nat.reduceAdd, Nat.reduceLT, Nat.reduceLeDiff, Nat.reduceEqDiff, Qnx, QnK, QnU, QnT, Qp, QK, QL, Q5, QW, aBin, Qnl, Qnm, QnP, Qnn, Qnq, Qno, QnM, QnO, QnD, Qnu, QnC, Q0, XY, QnR, Qnp, beq_false, T.QmN, ti3, YV, QX, w1, f1, f2, f4, fb, m0, T.QmN]) | (with_reducible (first | refine Qh fun K hK => ?_ | refine Ql ?_ | refine Qy ?_)) | ((with_reducible refine hK _ ?_); clear hK) | (refine Qk rfl ?_; simp only [↓reduceIte]))
      simp only [QI, Qm, Qu, upd, ↓reduceIte, Qnr, Qnv]
      exact Xc (XK _ _) (.keep (.v _)) ⟨rfl, rfl⟩
    have d0 : ¬ ((dn + 1 : Nat) : Int) < 1 := by omega
    have hn : ¬ (b - 1 < 0 ∨ ((dn + 1 : Nat) : Int) < 1) := by omega
    by_cases k0 : t.kind = 0
    · have z0 : (t.kind == 0) = true := by simp [k0]
      by_cases c1 : t.int ≥ -2147483648
      rotate_left
      · have e1 : ¬ -2147483648 ≤ t.int := by omega
        have R : t.run b ((dn + 1 : Nat) : Int) = (false, b - 1) := by
          rw [T.run_eq, if_neg hn, if_pos k0]; simp [e1]
        rw [R]
        refine Qe Tryz.func67 rfl Tryz.call67 Tryz.ntmps67 (congrArg Array.toList Tryz.results67) (by simp) ?_
        repeat (first | (((with_reducible refine Qa fun K E hK hE => ?_)); simp -implicitDefEqProofs only [Qd, Qb, Qg, OpW, aop, undef, AS.ev, Qc, QV, Qn, Qr, Qi, Qw, Qns, QnL, AV.QmP, QB, QU, QJ, Xp, QnF, QnG, Qv, Qt, QC, QnH, ↓reduceIte, Qny, Qnz, Nat.reduceAdd, Nat.reduceLT, Nat.reduceLeDiff, Nat.reduceEqDiff, Qnx, QnK, QnU, QnT, Qp, QK, QL, Q5, QW, aBin, Qnl, Qnm, QnP, Qnn, Qnq, Qno, QnM, QnO, QnD, Qnu, QnC, QS, Q0, XD, XY, QnS, Qnt, Qnp, beq_true, T.QmN, ti3, Xq, XG, YV, QX, w1, f1, f2, f3, f4, fb, m0, d0, T.QmN, z0, c1]) | (with_reducible (first | refine Qh fun K hK => ?_ | refine Qq ?_ | refine Ql ?_ | refine QA ?_ | refine Qj ?_ | refine Qy ?_ | refine QF ?_)) | ((with_reducible refine hK _ ?_); clear hK) | (refine Qk rfl ?_; simp only [↓reduceIte, Qnp]))
        simp only [QI, Qm, Qu, upd, ↓reduceIte, Qnr, Qnv]
        exact Xc (XK _ _) (.keep (.v _)) ⟨rfl, rfl⟩
      have e1 : -2147483648 ≤ t.int := by omega
      by_cases c2 : t.int ≤ 2147483648
      rotate_left
      · skip
        have R : t.run b ((dn + 1 : Nat) : Int) = (false, b - 1) := by
          rw [T.run_eq, if_neg hn, if_pos k0]; simp [e1, c2]
        rw [R]
        refine Qe Tryz.func67 rfl Tryz.call67 Tryz.ntmps67 (congrArg Array.toList Tryz.results67) (by simp) ?_
        repeat (first | (((with_reducible refine Qa fun K E hK hE => ?_)); simp -implicitDefEqProofs only [Qd, Qb, Qg, OpW, aop, undef, AS.ev, Qc, QV, Qn, Qr, Qi, Qw, Qns, QnL, AV.QmP, QB, QU, QJ, Xp, QnF, QnG, Qv, Qt, QC, QnH, ↓reduceIte, Qny, Qnz, Nat.reduceAdd, Nat.reduceLT, Nat.reduceLeDiff, Nat.reduceEqDiff, Qnx, QnK, QnU, QnT, Qp, QK, QL, Q5, QW, aBin, Qnl, Qnm, QnP, Qnn, Qnq, Qno, QnM, QnO, QnD, Qnu, QnC, QS, Q0, Xe, XD, XY, QnR, QnS, Qnt, Qnp, beq_true, T.QmN, ti3, Xq, XG, YV, QX, w1, f1, f2, f3, f4, fb, m0, d0, T.QmN, z0, c1, c2]) | (with_reducible (first | refine Qh fun K hK => ?_ | refine Qq ?_ | refine Ql ?_ | refine QA ?_ | refine Qj ?_ | refine Qy ?_ | refine QF ?_)) | ((with_reducible refine hK _ ?_); clear hK) | (refine Qk rfl ?_; simp only [↓reduceIte, Qnp]))
        simp only [QI, Qm, Qu, upd, ↓reduceIte, Qnr, Qnv]
        exact Xc (XK _ _) (.keep (.v _)) ⟨rfl, rfl⟩
      cases c3 : YU t.name with
      | false =>
        have c3' : (t.name.toList == ({ data := #[] } : ByteArray).toList) = false := c3
        have R : t.run b ((dn + 1 : Nat) : Int) = (false, b - 1) := by
          rw [T.run_eq, if_neg hn, if_pos k0]; simp [e1, c2, c3]
        rw [R]
        refine Qe Tryz.func67 rfl Tryz.call67 Tryz.ntmps67 (congrArg Array.toList Tryz.results67) (by simp) ?_
        repeat (first | (((with_reducible refine Qa fun K E hK hE => ?_)); simp -implicitDefEqProofs only [Qd, Qb, Qg, OpW, aop, undef, AS.ev, Qc, QV, Qn, Qr, QG, Qi, Qw, Qns, QnL, AV.QmP, QB, QU, QJ, Xp, QnF, QnG, Qv, Qt, QC, QnH, ↓reduceIte, Qny, Qnz, Nat.reduceAdd, Nat.reduceLT, Nat.reduceLeDiff, Nat.reduceEqDiff, Qnx, QnK, QnU, QnT, Qp, QK, QL, Q5, QW, aBin, Qnl, Qnm, QnP, Qnn, Qnq, Qno, QnM, QnO, QnD, Qnu, QnC, QS, Q0, Xe, XD, XY, QY, QnR, QnS, Qnt, Qnp, beq_true, T.QmN, ti3, ti9, Xq, XG, Xx, YV, QX, w1, f1, f2, f3, f4, fb, m0, d0, T.QmN, z0, c1, c2, c3']) | (with_reducible (first | refine Qh fun K hK => ?_ | refine Qq ?_ | refine Ql ?_ | refine QA ?_ | refine Qj ?_ | refine Qy ?_ | refine QF ?_)) | ((with_reducible refine hK _ ?_); clear hK) | (refine Qk rfl ?_; simp only [↓reduceIte, Qnp]))
        simp only [QI, Qm, Qu, upd, ↓reduceIte, Qnr, Qnv]
        exact Xc (XK _ _) (.keep (.v _)) ⟨rfl, rfl⟩
      | true =>
        have c3' : (t.name.toList == ({ data := #[] } : ByteArray).toList) = true := c3
        cases hl : t.args with
        | nil =>
          have c4 : ((0 : Int) == 0) = true := rfl
          have R : t.run b ((dn + 1 : Nat) : Int) = (true, b - 1) := by
            rw [T.run_eq, if_neg hn, if_pos k0]; simp [e1, c2, c3, hl]
          rw [R]
          refine Qe Tryz.func67 rfl Tryz.call67 Tryz.ntmps67 (congrArg Array.toList Tryz.results67) (by simp) ?_
          repeat (first | (((with_reducible refine Qa fun K E hK hE => ?_)); simp -implicitDefEqProofs only [Qd, Qb, Qg, OpW, aop, undef, AS.ev, Qc, QV, Qn, Qr, QG, Qi, Qw, Qns, QnL, AV.QmP, QB, QU, QJ, Xp, QnF, QnG, Qv, Qt, QC, QnH, ↓reduceIte, Qny, Qnz, Nat.reduceAdd, Nat.reduceLT, Nat.reduceLeDiff, Nat.reduceEqDiff, Qnx, QnK, QnU, QnT, Qp, QK, QL, Q5, QW, aBin, aLen, Qnl, Qnm, QnP, Qnn, Qnq, Qno, QnM, QnO, QnD, Qnu, QnC, QS, Q0, Xe, XD, XY, QY, goInt, QnR, QnS, Qnt, Qn7, Qnp, T.QmN, ti3, ti9, ti22, un22, Xq, XG, Xx, Xy, YV, QX, w1, f1, f2, f3, f4, fb, m0, d0, T.QmN, z0, c1, c2, c3', hl, Qek]) | (with_reducible (first | refine Qh fun K hK => ?_ | refine Qq ?_ | refine Ql ?_ | refine QA ?_ | refine Qj ?_ | refine Qy ?_ | refine QF ?_)) | ((with_reducible refine hK _ ?_); clear hK) | (refine Qk rfl ?_; simp only [↓reduceIte, Qnp]))
          simp only [QI, Qm, Qu, upd, ↓reduceIte, Qnr, Qnv]
          exact Xc (XK _ _) (.keep (.v _)) ⟨rfl, rfl⟩
        | cons a l =>
          have c4 : (((l.length + 1 : Nat) : Int) == 0) = false := by simp; omega
          have R : t.run b ((dn + 1 : Nat) : Int) = (false, b - 1) := by
            rw [T.run_eq, if_neg hn, if_pos k0]; simp [e1, c2, c3, hl]
          rw [R]
          refine Qe Tryz.func67 rfl Tryz.call67 Tryz.ntmps67 (congrArg Array.toList Tryz.results67) (by simp) ?_
          repeat (first | (((with_reducible refine Qa fun K E hK hE => ?_)); simp -implicitDefEqProofs only [Qd, Qb, Qg, OpW, aop, undef, AS.ev, Qc, QV, Qn, Qr, QG, Qi, Qw, Qns, QnL, AV.QmP, QB, QU, QJ, Xp, QnF, QnG, Qv, Qt, QC, QnH, ↓reduceIte, Qny, Qnz, Nat.reduceAdd, Nat.reduceLT, Nat.reduceLeDiff, Nat.reduceEqDiff, Qnx, QnK, QnU, QnT, Qp, QK, QL, Q5, QW, aBin, aLen, Qnl, Qnm, QnP, Qnn, Qnq, Qno, QnM, QnO, QnD, Qnu, QnC, QS, Q0, Xe, XD, XY, QY, goInt, QnR, QnS, Qnt, Qnp, T.QmN, QH, ti3, ti9, ti22, un22, Xq, XG, Xx, Xy, YV, QX, w1, f1, f2, f3, f4, fb, m0, d0, T.QmN, z0, c1, c2, c3', hl, QH, Qny, c4]) | (with_reducible (first | refine Qh fun K hK => ?_ | refine Qq ?_ | refine Ql ?_ | refine QA ?_ | refine Qj ?_ | refine Qy ?_ | refine QF ?_)) | ((with_reducible refine hK _ ?_); clear hK) | (refine Qk rfl ?_; simp only [↓reduceIte, Qnp]))
          simp only [QI, Qm, Qu, upd, ↓reduceIte, Qnr, Qnv]
          exact Xc (XK _ _) (.keep (.v _)) ⟨rfl, rfl⟩
    have z0 : (t.kind == 0) = false := by simp [k0]
    by_cases k1 : t.kind = 1
    · have z1 : (t.kind == 1) = true := by simp [k1]
      by_cases c1 : t.int ≥ 0
      rotate_left
      · have e1 : ¬ 0 ≤ t.int := by omega
        have R : t.run b ((dn + 1 : Nat) : Int) = (false, b - 1) := by
          rw [T.run_eq, if_neg hn, if_neg k0, if_pos k1]; simp [e1]
        rw [R]
        refine Qe Tryz.func67 rfl Tryz.call67 Tryz.ntmps67 (congrArg Array.toList Tryz.results67) (by simp) ?_
        repeat (first | (((with_reducible refine Qa fun K E hK hE => ?_)); simp -implicitDefEqProofs only [Qd, Qb, Qg, OpW, aop, undef, AS.ev, Qc, QV, Qn, Qr, Qi, Qw, Qns, QnL, AV.QmP, QB, QU, QJ, Xp, QnF, QnG, Qv, Qt, QC, QnH, ↓reduceIte, Qny, Qnz, Nat.reduceAdd, Nat.reduceLT, Nat.reduceLeDiff, Nat.reduceEqDiff, Qnx, QnK, QnU, QnT, Qp, QK, QL, Q5, QW, aBin, Qnl, Qnm, QnP, Qnn, Qnq, Qno, QnM, QnO, QnD, Qnu, QnC, QS, Q0, XD, XY, QnS, Qnt, Qnp, beq_true, T.QmN, ti3, Xq, XG, YV, QX, w1, f1, f2, f3, f4, fb, m0, d0, T.QmN, z0, z1, c1]) | (with_reducible (first | refine Qh fun K hK => ?_ | refine Qq ?_ | refine Ql ?_ | refine QA ?_ | refine Qj ?_ | refine Qy ?_ | refine QF ?_)) | ((with_reducible refine hK _ ?_); clear hK) | (refine Qk rfl ?_; simp only [↓reduceIte, Qnp]))
        simp only [QI, Qm, Qu, upd, ↓reduceIte, Qnr, Qnv]
        exact Xc (XK _ _) (.keep (.v _)) ⟨rfl, rfl⟩
      have e1 : 0 ≤ t.int := by omega
      by_cases c2 : t.int ≤ 1048576
      rotate_left
      · skip
        have R : t.run b ((dn + 1 : Nat) : Int) = (false, b - 1) := by
          rw [T.run_eq, if_neg hn, if_neg k0, if_pos k1]; simp [e1, c2]
        rw [R]
        refine Qe Tryz.func67 rfl Tryz.call67 Tryz.ntmps67 (congrArg Array.toList Tryz.results67) (by simp) ?_
        repeat (first | (((with_reducible refine Qa fun K E hK hE => ?_)); simp -implicitDefEqProofs only [Qd, Qb, Qg, OpW, aop, undef, AS.ev, Qc, QV, Qn, Qr, Qi, Qw, Qns, QnL, AV.QmP, QB, QU, QJ, Xp, QnF, QnG, Qv, Qt, QC, QnH, ↓reduceIte, Qny, Qnz, Nat.reduceAdd, Nat.reduceLT, Nat.reduceLeDiff, Nat.reduceEqDiff, Qnx, QnK, QnU, QnT, Qp, QK, QL, Q5, QW, aBin, Qnl, Qnm, QnP, Qnn, Qnq, Qno, QnM, QnO, QnD, Qnu, QnC, QS, Q0, Xe, XD, XY, QnR, QnS, Qnt, Qnp, beq_true, T.QmN, ti3, Xq, XG, YV, QX, w1, f1, f2, f3, f4, fb, m0, d0, T.QmN, z0, z1, c1, c2]) | (with_reducible (first | refine Qh fun K hK => ?_ | refine Qq ?_ | refine Ql ?_ | refine QA ?_ | refine Qj ?_ | refine Qy ?_ | refine QF ?_)) | ((with_reducible refine hK _ ?_); clear hK) | (refine Qk rfl ?_; simp only [↓reduceIte, Qnp]))
        simp only [QI, Qm, Qu, upd, ↓reduceIte, Qnr, Qnv]
        exact Xc (XK _ _) (.keep (.v _)) ⟨rfl, rfl⟩
      cases c3 : YU t.name with
      | false =>
        have c3' : (t.name.toList == ({ data := #[] } : ByteArray).toList) = false := c3
        have R : t.run b ((dn + 1 : Nat) : Int) = (false, b - 1) := by
          rw [T.run_eq, if_neg hn, if_neg k0, if_pos k1]; simp [e1, c2, c3]
        rw [R]
        refine Qe Tryz.func67 rfl Tryz.call67 Tryz.ntmps67 (congrArg Array.toList Tryz.results67) (by simp) ?_
        repeat (first | (((with_reducible refine Qa fun K E hK hE => ?_)); simp -implicitDefEqProofs only [Qd, Qb, Qg, OpW, aop, undef, AS.ev, Qc, QV, Qn, Qr, QG, Qi, Qw, Qns, QnL, AV.QmP, QB, QU, QJ, Xp, QnF, QnG, Qv, Qt, QC, QnH, ↓reduceIte, Qny, Qnz, Nat.reduceAdd, Nat.reduceLT, Nat.reduceLeDiff, Nat.reduceEqDiff, Qnx, QnK, QnU, QnT, Qp, QK, QL, Q5, QW, aBin, Qnl, Qnm, QnP, Qnn, Qnq, Qno, QnM, QnO, QnD, Qnu, QnC, QS, Q0, Xe, XD, XY, QY, QnR, QnS, Qnt, Qnp, beq_true, T.QmN, ti3, ti9, Xq, XG, Xx, YV, QX, w1, f1, f2, f3, f4, fb, m0, d0, T.QmN, z0, z1, c1, c2, c3']) | (with_reducible (first | refine Qh fun K hK => ?_ | refine Qq ?_ | refine Ql ?_ | refine QA ?_ | refine Qj ?_ | refine Qy ?_ | refine QF ?_)) | ((with_reducible refine hK _ ?_); clear hK) | (refine Qk rfl ?_; simp only [↓reduceIte, Qnp]))
        simp only [QI, Qm, Qu, upd, ↓reduceIte, Qnr, Qnv]
        exact Xc (XK _ _) (.keep (.v _)) ⟨rfl, rfl⟩
      | true =>
        have c3' : (t.name.toList == ({ data := #[] } : ByteArray).toList) = true := c3
        cases hl : t.args with
        | nil =>
          have c4 : ((0 : Int) == 0) = true := rfl
          have R : t.run b ((dn + 1 : Nat) : Int) = (true, b - 1) := by
            rw [T.run_eq, if_neg hn, if_neg k0, if_pos k1]; simp [e1, c2, c3, hl]
          rw [R]
          refine Qe Tryz.func67 rfl Tryz.call67 Tryz.ntmps67 (congrArg Array.toList Tryz.results67) (by simp) ?_
          repeat (first | (((with_reducible refine Qa fun K E hK hE => ?_)); simp -implicitDefEqProofs only [Qd, Qb, Qg, OpW, aop, undef, AS.ev, Qc, QV, Qn, Qr, QG, Qi, Qw, Qns, QnL, AV.QmP, QB, QU, QJ, Xp, QnF, QnG, Qv, Qt, QC, QnH, ↓reduceIte, Qny, Qnz, Nat.reduceAdd, Nat.reduceLT, Nat.reduceLeDiff, Nat.reduceEqDiff, Qnx, QnK, QnU, QnT, Qp, QK, QL, Q5, QW, aBin, aLen, Qnl, Qnm, QnP, Qnn, Qnq, Qno, QnM, QnO, QnD, Qnu, QnC, QS, Q0, Xe, XD, XY, QY, goInt, QnR, QnS, Qnt, Qn7, Qnp, T.QmN, ti3, ti9, ti22, un22, Xq, XG, Xx, Xy, YV, QX, w1, f1, f2, f3, f4, fb, m0, d0, T.QmN, z0, z1, c1, c2, c3', hl, Qek]) | (with_reducible (first | refine Qh fun K hK => ?_ | refine Qq ?_ | refine Ql ?_ | refine QA ?_ | refine Qj ?_ | refine Qy ?_ | refine QF ?_)) | ((with_reducible refine hK _ ?_); clear hK) | (refine Qk rfl ?_; simp only [↓reduceIte, Qnp]))
          simp only [QI, Qm, Qu, upd, ↓reduceIte, Qnr, Qnv]
          exact Xc (XK _ _) (.keep (.v _)) ⟨rfl, rfl⟩
        | cons a l =>
          have c4 : (((l.length + 1 : Nat) : Int) == 0) = false := by simp; omega
          have R : t.run b ((dn + 1 : Nat) : Int) = (false, b - 1) := by
            rw [T.run_eq, if_neg hn, if_neg k0, if_pos k1]; simp [e1, c2, c3, hl]
          rw [R]
          refine Qe Tryz.func67 rfl Tryz.call67 Tryz.ntmps67 (congrArg Array.toList Tryz.results67) (by simp) ?_
          repeat (first | (((with_reducible refine Qa fun K E hK hE => ?_)); simp -implicitDefEqProofs only [Qd, Qb, Qg, OpW, aop, undef, AS.ev, Qc, QV, Qn, Qr, QG, Qi, Qw, Qns, QnL, AV.QmP, QB, QU, QJ, Xp, QnF, QnG, Qv, Qt, QC, QnH, ↓reduceIte, Qny, Qnz, Nat.reduceAdd, Nat.reduceLT, Nat.reduceLeDiff, Nat.reduceEqDiff, Qnx, QnK, QnU, QnT, Qp, QK, QL, Q5, QW, aBin, aLen, Qnl, Qnm, QnP, Qnn, Qnq, Qno, QnM, QnO, QnD, Qnu, QnC, QS, Q0, Xe, XD, XY, QY, goInt, QnR, QnS, Qnt, Qnp, T.QmN, QH, ti3, ti9, ti22, un22, Xq, XG, Xx, Xy, YV, QX, w1, f1, f2, f3, f4, fb, m0, d0, T.QmN, z0, z1, c1, c2, c3', hl, QH, Qny, c4]) | (with_reducible (first | refine Qh fun K hK => ?_ | refine Qq ?_ | refine Ql ?_ | refine QA ?_ | refine Qj ?_ | refine Qy ?_ | refine QF ?_)) | ((with_reducible refine hK _ ?_); clear hK) | (refine Qk rfl ?_; simp only [↓reduceIte, Qnp]))
          simp only [QI, Qm, Qu, upd, ↓reduceIte, Qnr, Qnv]
          exact Xc (XK _ _) (.keep (.v _)) ⟨rfl, rfl⟩
    have z1 : (t.kind == 1) = false := by simp [k1]
    by_cases k2 : t.kind = 2
    rotate_left
    · have z2 : (t.kind == 2) = false := by simp [k2]
      have R : t.run b ((dn + 1 : Nat) : Int) = (false, b - 1) := by
        rw [T.run_eq, if_neg hn, if_neg k0, if_neg k1, if_neg k2]
      rw [R]
      refine Qe Tryz.func67 rfl Tryz.call67 Tryz.ntmps67 (congrArg Array.toList Tryz.results67) (by simp) ?_
      repeat (first | (((with_reducible refine Qa fun K E hK hE => ?_)); simp -implicitDefEqProofs only [Qd, Qb, Qg, OpW, aop, undef, AS.ev, Qc, QV, Qn, Qr, Qi, Qw, Qns, QnL, AV.QmP, QB, QU, QJ, Xp, QnF, QnG, Qv, Qt, QC, QnH, ↓reduceIte, Qny, Qnz, Nat.reduceAdd, Nat.reduceLT, Nat.reduceLeDiff, Nat.reduceEqDiff, Qnx, QnK, QnU, QnT, Qp, QK, QL, Q5, QW, aBin, Qnl, Qnm, QnP, Qnn, Qnq, Qno, QnM, QnO, QnD, Qnu, QnC, QS, Q0, XY, QnS, Qnt, Qnp, T.QmN, ti3, Xq, YV, QX, w1, f1, f2, f3, f4, fb, m0, d0, T.QmN, z0, z1, z2]) | (with_reducible (first | refine Qh fun K hK => ?_ | refine Qq ?_ | refine Ql ?_ | refine QA ?_ | refine Qj ?_ | refine QD ?_)) | ((with_reducible refine hK _ ?_); clear hK) | (refine Qk rfl ?_; simp only [↓reduceIte, Qnp]))
      simp only [QI, Qm, Qu, upd, ↓reduceIte, Qnr, Qnv]
      exact Xc (XK _ _) (.keep (.v _)) ⟨rfl, rfl⟩
    have z2 : (t.kind == 2) = true := by simp [k2]
    by_cases i0 : t.int = 0
    rotate_left
    · have y0 : (t.int != 0) = true := by simp [i0]
      have R : t.run b ((dn + 1 : Nat) : Int) = (false, b - 1) := by
        rw [T.run_eq, if_neg hn, if_neg k0, if_neg k1, if_pos k2, if_pos (.inl i0)]
      rw [R]
      refine Qe Tryz.func67 rfl Tryz.call67 Tryz.ntmps67 (congrArg Array.toList Tryz.results67) (by simp) ?_
      repeat (first | (((with_reducible refine Qa fun K E hK hE => ?_)); simp -implicitDefEqProofs only [Qd, Qb, Qg, OpW, aop, undef, AS.ev, Qc, QV, Qn, Qr, Qi, Qw, Qns, QnL, AV.QmP, QB, QU, QJ, Xp, QnF, QnG, Qv, Qt, QC, QnH, QnI, ↓reduceIte, Qny, Qnz, Nat.reduceAdd, Nat.reduceLT, Nat.reduceLeDiff, Nat.reduceEqDiff, Qnx, QnK, QnU, QnT, Qp, QK, QL, Q5, QW, aBin, Qnl, Qnm, QnP, Qnn, Qnq, Qno, QnM, QnO, QnD, Qnu, QnC, QS, Xh, Q0, XY, QnS, Qnt, Qnp, beq_false, T.QmN, ti3, Xq, XG, YV, QX, w1, f1, f2, f3, f4, fb, m0, d0, T.QmN, z0, z1, z2, y0]) | (with_reducible (first | refine Qh fun K hK => ?_ | refine Qq ?_ | refine Ql ?_ | refine QA ?_ | refine Qj ?_ | refine Qy ?_ | refine QF ?_)) | ((with_reducible refine hK _ ?_); clear hK) | (refine Qk rfl ?_; simp only [↓reduceIte, Qnp]))
      simp only [QI, Qm, Qu, upd, ↓reduceIte, Qnr, Qnv]
      exact Xc (XK _ _) (.keep (.v _)) ⟨rfl, rfl⟩
    have y0 : (t.int != 0) = false := by simp [i0]
    by_cases a6 : t.args.length > 6
    · have y6 : (t.args.length : Int) > 6 := by omega
      have R : t.run b ((dn + 1 : Nat) : Int) = (false, b - 1) := by
        rw [T.run_eq, if_neg hn, if_neg k0, if_neg k1, if_pos k2, if_pos (.inr a6)]
      rw [R]
      refine Qe Tryz.func67 rfl Tryz.call67 Tryz.ntmps67 (congrArg Array.toList Tryz.results67) (by simp) ?_
      repeat (first | (((with_reducible refine Qa fun K E hK hE => ?_)); simp -implicitDefEqProofs only [Qd, Qb, Qg, OpW, aop, undef, AS.ev, Qc, QV, Qn, Qr, Qi, Qw, Qns, QnL, AV.QmP, QB, QU, QJ, Xp, QnF, QnG, Qv, Qt, QC, QnH, ↓reduceIte, Qny, Qnz, Nat.reduceAdd, Nat.reduceLT, Nat.reduceLeDiff, Nat.reduceEqDiff, Qnx, QnK, QnU, QnT, Qp, QK, QL, Q5, QW, aBin, aLen, Qnl, Qnm, QnP, Qnn, Qnq, Qno, QnM, QnO, QnD, Qnu, QnC, QS, Xh, Q0, Xg, XY, goInt, QnR, QnS, Qnt, Qnp, T.QmN, QH, ti3, ti22, un22, Xq, XG, Xy, YV, QX, w1, f1, f2, f3, f4, fb, m0, d0, T.QmN, z0, z1, z2, y0, y6, QH]) | (with_reducible (first | refine Qh fun K hK => ?_ | refine Qq ?_ | refine Ql ?_ | refine QA ?_ | refine Qj ?_ | refine Qy ?_ | refine QF ?_)) | ((with_reducible refine hK _ ?_); clear hK) | (refine Qk rfl ?_; simp only [↓reduceIte, Qnp]))
      simp only [QI, Qm, Qu, upd, ↓reduceIte, Qnr, Qnv]
      exact Xc (XK _ _) (.keep (.v _)) ⟨rfl, rfl⟩
    have y6 : ¬ (t.args.length : Int) > 6 := by omega
    have a6' : ¬ 6 < t.args.length := a6
    have cr := QcS t.name
    have co := QfR t.name
    have er : (decide (QbA 1 t.name) && !resB t.name) = XV t.name := rfl
    rw [er] at cr
    have hind := fun b2 hb => Qjl dn (fun t b i h0 h1 => ih t b i (by omega) h0 h1) t.args (by omega) b2 i hb (fun t b hb h => T.Qm8 t b dn hb h)
    have ca := (hind (b - 1) (by omega)).app hi [.cells 24 4 [t.av]]
    rw [fb, fb] at ca
    cases hr : XV t.name with
    | true =>
      rw [hr] at cr
      have R : t.run b ((dn + 1 : Nat) : Int) = runL t.args (b - 1) (dn : Int) := by
        rw [T.run_eq, if_neg hn, if_neg k0, if_neg k1, if_pos k2, if_neg (show ¬ (t.int ≠ 0 ∨ 6 < t.args.length) by omega), hr, if_neg (by simp)]; rw [show (((dn + 1 : Nat) : Int) - 1) = (dn : Int) by omega]
      rw [R]
      refine Qe Tryz.func67 rfl Tryz.call67 Tryz.ntmps67 (congrArg Array.toList Tryz.results67) (by simp) ?_
      repeat (first | ((first | (with_reducible (first | refine Qa fun K E hK hE => ?_ | refine Qo cr ?_ | refine FunW.ret (FunW.call ca) ?_))); simp -implicitDefEqProofs only [Qd, Qb, Qg, OpW, QO, aop, undef, AS.ev, Qc, QV, Qn, Qr, Qi, Qw, Qns, QnL, AV.QmP, QB, QU, QJ, Xp, QnF, QnG, Qv, Qt, QC, QnH, QnI, ↓reduceIte, Qny, Qnz, Nat.reduceAdd, Nat.reduceLT, Nat.reduceLeDiff, Nat.reduceEqDiff, Qnx, QnK, QnU, QnT, Qp, QK, QL, Q5, QW, aBin, aLen, Qnl, Qnm, QnP, Qnn, Qnq, Qno, QnA, QnE, QnM, QnO, QnD, Qnu, QnC, QS, Xh, Q0, Xg, XY, Xa, goInt, QnS, Qnt, Qnp, beq_true, T.QmN, QH, ti3, ti9, ti22, un22, Xq, XG, Xx, Xy, YV, QX, w1, f1, f2, f3, f4, fb, m0, d0, T.QmN, z0, z1, z2, y0, y6, QH, wd]) | (with_reducible (first | refine Qh fun K hK => ?_ | refine Qq ?_ | refine Ql ?_ | refine QA ?_ | refine Qj ?_ | refine Qy ?_ | refine QF ?_)) | ((with_reducible refine hK _ ?_); clear hK) | (refine Qk rfl ?_; simp only [↓reduceIte, Qnp]))
      simp only [QI, Qm, Qu, upd, ↓reduceIte, Qnr, Qnv]
      exact Xc (XK _ _) (.keep (.v _)) ⟨rfl, rfl⟩
    | false =>
      rw [hr] at cr
      cases ho : opB t.name with
      | false =>
        rw [ho] at co
        have R : t.run b ((dn + 1 : Nat) : Int) = (false, b - 1) := by
          rw [T.run_eq, if_neg hn, if_neg k0, if_neg k1, if_pos k2, if_neg (show ¬ (t.int ≠ 0 ∨ 6 < t.args.length) by omega), hr, ho, if_pos (by simp)]
        rw [R]
        refine Qe Tryz.func67 rfl Tryz.call67 Tryz.ntmps67 (congrArg Array.toList Tryz.results67) (by simp) ?_
        repeat (first | ((first | (with_reducible (first | refine Qa fun K E hK hE => ?_ | refine Qo cr ?_ | refine Qo co ?_))); simp -implicitDefEqProofs only [Qd, Qb, Qg, OpW, QO, aop, undef, AS.ev, Qc, QV, Qn, Qr, Qi, Qw, Qns, QnL, AV.QmP, QB, QU, QJ, Xp, QnF, QnG, Qv, Qt, QC, QnH, QnJ, ↓reduceIte, Qny, Qnz, Nat.reduceAdd, Nat.reduceLT, Nat.reduceLeDiff, Nat.reduceEqDiff, Qnx, QnK, QnU, QnT, Qp, QK, QL, Q5, QW, aBin, aLen, Qnl, Qnm, QnP, Qnn, Qnq, Qno, QnA, QnE, QnM, QnO, QnD, Qnu, QnC, QS, Xh, Q0, Xg, XY, Xa, goInt, QnS, Qnt, Qnp, beq_true, T.QmN, QH, ti3, ti9, ti22, un22, Xq, XG, Xx, Xy, YV, QX, w1, f1, f2, f3, f4, fb, m0, d0, T.QmN, z0, z1, z2, y0, y6, QH]) | (with_reducible (first | refine Qh fun K hK => ?_ | refine Qq ?_ | refine Ql ?_ | refine QA ?_ | refine Qj ?_ | refine Qy ?_ | refine QF ?_)) | ((with_reducible refine hK _ ?_); clear hK) | (refine Qk rfl ?_; simp only [↓reduceIte, Qnp]))
        simp only [QI, Qm, Qu, upd, ↓reduceIte, Qnr, Qnv]
        exact Xc (XK _ _) (.keep (.v _)) ⟨rfl, rfl⟩
      | true =>
        rw [ho] at co
        by_cases l2 : t.args.length = 2
        · have z3 : ((t.args.length : Int) == 2) = true := by simp [l2]
          have R : t.run b ((dn + 1 : Nat) : Int) = runL t.args (b - 1) (dn : Int) := by
            rw [T.run_eq, if_neg hn, if_neg k0, if_neg k1, if_pos k2, if_neg (show ¬ (t.int ≠ 0 ∨ 6 < t.args.length) by omega), hr, ho, if_neg (by simp [l2])]; rw [show (((dn + 1 : Nat) : Int) - 1) = (dn : Int) by omega]
          rw [R]
          refine Qe Tryz.func67 rfl Tryz.call67 Tryz.ntmps67 (congrArg Array.toList Tryz.results67) (by simp) ?_
          repeat (first | ((first | (with_reducible (first | refine Qa fun K E hK hE => ?_ | refine Qo cr ?_ | refine Qo co ?_ | refine FunW.ret (FunW.call ca) ?_))); simp -implicitDefEqProofs only [Qd, Qb, Qg, OpW, QO, aop, undef, AS.ev, Qc, QV, Qn, Qr, Qi, Qw, Qns, QnL, AV.QmP, QB, QU, QJ, Xp, QnF, QnG, Qv, Qt, QC, QnH, QnI, QnJ, ↓reduceIte, Qny, Qnz, Nat.reduceAdd, Nat.reduceLT, Nat.reduceLeDiff, Nat.reduceEqDiff, Qnx, QnK, QnU, QnT, Qp, QK, QL, Q5, QW, aBin, aLen, Qnl, Qnm, QnP, Qnn, Qnq, Qno, QnA, QnE, QnM, QnO, QnD, Qnu, QnC, QS, Xh, Q0, Xg, XY, Xa, goInt, QnS, Qnt, Qnp, T.QmN, QH, ti3, ti9, ti22, un22, Xq, XG, Xx, Xy, YV, QX, w1, f1, f2, f3, f4, fb, m0, d0, T.QmN, z0, z1, z2, y0, y6, QH, z3, wd]) | (with_reducible (first | refine Qh fun K hK => ?_ | refine Qq ?_ | refine Ql ?_ | refine QA ?_ | refine Qj ?_ | refine Qy ?_ | refine QF ?_)) | ((with_reducible refine hK _ ?_); clear hK) | (refine Qk rfl ?_; simp only [↓reduceIte, Qnp]))
          simp only [QI, Qm, Qu, upd, ↓reduceIte, Qnr, Qnv]
          exact Xc (XK _ _) (.keep (.v _)) ⟨rfl, rfl⟩
        · have z3 : ((t.args.length : Int) == 2) = false := by simp; omega
          have R : t.run b ((dn + 1 : Nat) : Int) = (false, b - 1) := by
            rw [T.run_eq, if_neg hn, if_neg k0, if_neg k1, if_pos k2, if_neg (show ¬ (t.int ≠ 0 ∨ 6 < t.args.length) by omega), hr, ho, if_pos (by simp [l2])]
          rw [R]
          refine Qe Tryz.func67 rfl Tryz.call67 Tryz.ntmps67 (congrArg Array.toList Tryz.results67) (by simp) ?_
          repeat (first | ((first | (with_reducible (first | refine Qa fun K E hK hE => ?_ | refine Qo cr ?_ | refine Qo co ?_))); simp -implicitDefEqProofs only [Qd, Qb, Qg, OpW, QO, aop, undef, AS.ev, Qc, QV, Qn, Qr, Qi, Qw, Qns, QnL, AV.QmP, QB, QU, QJ, Xp, QnF, QnG, Qv, Qt, QC, QnH, QnJ, ↓reduceIte, Qny, Qnz, Nat.reduceAdd, Nat.reduceLT, Nat.reduceLeDiff, Nat.reduceEqDiff, Qnx, QnK, QnU, QnT, Qp, QK, QL, Q5, QW, aBin, aLen, Qnl, Qnm, QnP, Qnn, Qnq, Qno, QnA, QnE, QnM, QnO, QnD, Qnu, QnC, QS, Xh, Q0, Xg, XY, Xa, goInt, QnS, Qnt, Qnp, T.QmN, QH, ti3, ti9, ti22, un22, Xq, XG, Xx, Xy, YV, QX, w1, f1, f2, f3, f4, fb, m0, d0, T.QmN, z0, z1, z2, y0, y6, QH, z3]) | (with_reducible (first | refine Qh fun K hK => ?_ | refine Qq ?_ | refine Ql ?_ | refine QA ?_ | refine Qj ?_ | refine Qy ?_ | refine QF ?_)) | ((with_reducible refine hK _ ?_); clear hK) | (refine Qk rfl ?_; simp only [↓reduceIte, Qnp]))
          simp only [QI, Qm, Qu, upd, ↓reduceIte, Qnr, Qnv]
          exact Xc (XK _ _) (.keep (.v _)) ⟨rfl, rfl⟩
end Go.Proofs.YtehjodmnajgdgaaGreatDoor.Ab
set_option maxRecDepth 4000
namespace Go.Proofs.YtehjodmnajgdgaaGreatDoor.Ab
open Go.Proofs
theorem Chg.at {P : Program} {f : FuncId} {args : List AV} {i : Nat} {x y : AB} {r : AV} (H : Chg P f args i x r y) {h : AH} (hx : h[i]? = some x) : Xd P f args h fun o h' => o = .ret r ∧ h' = h.set i y := by
  have := H h (QN hx)
  rwa [QhS hx] at this
theorem QlP (l : List T) (hl : l.length ≤ 1000) (h : AH) (i : Nat) (hx : h[i]? = some (.cells 91 1 [.agg [.i 200]])) : Xd Tryz.prog 78 [.ptr i 0 0, .sl 4 (avs l) none, .i 20] h
    fun o h' => o = .ret (.b (runL l 200 20).1) ∧ h' = h.set i (.cells 91 1 [.agg [.i (runL l 200 20).2]]) :=
  (Qjl 20 (fun t b i h0 h1 => QgQ 20 t b i (by omega) h0 h1) l hl 200 i (by omega) (fun t b hb h => T.Qm8 t b 20 hb h)).at hx
def Q3 (g : G) : Bool := XV g.name && (decide (g.args.length ≤ 6) && (runL g.args 200 20).1)
theorem Qab (g : G) : Pure Tryz.prog 45 [g.atom] (.b (Q3 g)) := by
  intro h
  have cr := QcS g.name
  have er : (decide (QbA 1 g.name) && !resB g.name) = XV g.name := rfl
  rw [er] at cr
  cases hr : XV g.name with
  | false =>
    rw [hr] at cr
    refine Qe Tryz.func45 rfl Tryz.call45 Tryz.ntmps45 (congrArg Array.toList Tryz.results45) (by simp) ?_
    repeat (first | ((first | (with_reducible (first | refine Qa fun K E hK hE => ?_ | refine Qo cr ?_))); simp -implicitDefEqProofs only [Qd, Qb, Qg, OpW, QO, aop, undef, AS.ev, Qc, Qn, Qr, Qi, Qw, Qns, AV.QmP, QB, QU, QJ, QnF, QnG, Qv, Qt, QC, QnH, ↓reduceIte, Qny, Qnz, Nat.reduceAdd, Nat.reduceLT, Nat.reduceLeDiff, Nat.reduceEqDiff, Qnx, QnK, QnT, Qp, QK, QL, X4, Yj, QT, hlen, happ, Qnl, Qnm, Qnn, Qnq, Qno, QnA, QnE, QnN, QnM, QnO, QnD, Qnu, QnC, Qnp, beq_true, ti9, QbF, zi91, sp91, Xm]) | (with_reducible refine Ql ?_) | ((with_reducible refine hK _ ?_); clear hK))
    simp only [QI, Qm, Qu, upd, ↓reduceIte, Qnr, Qnv]; first | refine Qf (htake _ _) (.keep (.v _)) ⟨by rw [Q3, hr]; rfl, rfl⟩ | refine Qf List.take_length (.keep (.v _)) ⟨by rw [Q3, hr]; rfl, rfl⟩
  | true =>
    rw [hr] at cr
    by_cases hl : (g.args.length : Int) ≤ 6
    · have hl' : decide (g.args.length ≤ 6) = true := decide_eq_true (by omega)
      have ca := QlP g.args (by omega) (h ++ [.cells 34 2 [g.atom], .cells 91 1 [.agg [.i 200]]]) (h.length + 1) (by rw [hget]; rfl)
      rw [hset] at ca
      refine Qe Tryz.func45 rfl Tryz.call45 Tryz.ntmps45 (congrArg Array.toList Tryz.results45) (by simp) ?_
      repeat (first | ((first | (with_reducible (first | refine Qa fun K E hK hE => ?_ | refine Qo cr ?_ | refine FunW.ret (FunW.call ca) ?_))); simp -implicitDefEqProofs only [Qd, Qb, Qg, OpW, QO, aop, undef, AS.ev, Qc, Qn, Qr, Qi, Qw, Qns, AV.QmP, QB, QU, QJ, QnF, QnG, Qv, Qt, QC, QnH, ↓reduceIte, Qny, Qnz, Nat.reduceAdd, Nat.reduceLT, Nat.reduceLeDiff, Nat.reduceEqDiff, Qnx, QnK, QnT, Qp, QK, QL, aBin, X4, Yj, aLen, QT, hlen, happ, Qnl, Qnm, QnP, QnQ, Qnn, Qnq, Qno, QnA, QnE, QnN, QnM, QnO, QnD, Qnu, QnC, Xe, goInt, QnR, Qnt, QH, ti9, ti22, un22, QbF, Qc1, zi91, sp91, Xm, hl, QH]) | (with_reducible refine Ql ?_) | ((with_reducible refine hK _ ?_); clear hK))
      simp only [QI, Qm, Qu, upd, ↓reduceIte, Qnr, Qnv]; first | refine Qf (htake _ _) (.keep (.v _)) ⟨by rw [Q3, hr, hl']; rfl, rfl⟩ | refine Qf List.take_length (.keep (.v _)) ⟨by rw [Q3, hr, hl']; rfl, rfl⟩
    · have hl' : decide (g.args.length ≤ 6) = false := decide_eq_false (by omega)
      refine Qe Tryz.func45 rfl Tryz.call45 Tryz.ntmps45 (congrArg Array.toList Tryz.results45) (by simp) ?_
      repeat (first | ((first | (with_reducible (first | refine Qa fun K E hK hE => ?_ | refine Qo cr ?_))); simp -implicitDefEqProofs only [Qd, Qb, Qg, OpW, QO, aop, undef, AS.ev, Qc, Qn, Qr, Qi, Qw, Qns, AV.QmP, QB, QU, QJ, QnF, QnG, Qv, Qt, QC, QnH, ↓reduceIte, Qny, Qnz, Nat.reduceAdd, Nat.reduceLT, Nat.reduceLeDiff, Nat.reduceEqDiff, Qnx, QnK, QnT, Qp, QK, QL, aBin, X4, Yj, aLen, QT, hlen, happ, Qnl, Qnm, Qnn, Qnq, Qno, QnA, QnE, QnN, QnM, QnO, QnD, Qnu, QnC, Xe, goInt, QnS, Qnt, Qnp, beq_true, QH, ti9, ti22, un22, QbF, Qc1, zi91, sp91, Xm, hl, QH]) | (with_reducible refine Ql ?_) | ((with_reducible refine hK _ ?_); clear hK))
      simp only [QI, Qm, Qu, upd, ↓reduceIte, Qnr, Qnv]; first | refine Qf (htake _ _) (.keep (.v _)) ⟨by rw [Q3, hr, hl']; rfl, rfl⟩ | refine Qf List.take_length (.keep (.v _)) ⟨by rw [Q3, hr, hl']; rfl, rfl⟩
def T.QmV (t : T) : Bool := (t.run 200 20).1
theorem Qev (t : T) : Pure Tryz.prog 33 [t.av] (.b t.QmV) := by
  intro h
  have ca := (QgQ 20 t 200 (h.length + 1) (by omega) (by omega) (by omega)).at (h := h ++ [.cells 24 4 [t.av], .cells 91 1 [.agg [.i 200]]]) (by rw [hget]; rfl)
  rw [hset] at ca
  refine Qe Tryz.func33 rfl Tryz.call33 Tryz.ntmps33 (congrArg Array.toList Tryz.results33) (by simp) ?_
  repeat (first | ((first | (with_reducible (first | refine Qa fun K E hK hE => ?_ | refine FunW.ret (FunW.call ca) ?_))); simp -implicitDefEqProofs only [Qd, Qb, Qg, OpW, QO, aop, undef, AS.ev, Qc, Qn, Qr, Qi, Qw, Qns, AV.QmP, QB, QU, QJ, QnF, QnG, Qv, Qt, QC, QnH, ↓reduceIte, Qny, Qnz, Nat.reduceAdd, Nat.reduceLT, Nat.reduceLeDiff, Nat.reduceEqDiff, Qnx, QnT, QK, QL, X4, Yj, QT, hlen, happ, Qnl, QnP, QnQ, Qnn, QnA, QnE, QnN, QnM, QnO, QnD, Qnu, QnC, T.QmN, T.QmO, ti24, zi91, sp91, T.QmN, T.QmO]) | (with_reducible refine Ql ?_) | ((with_reducible refine hK _ ?_); clear hK))
  simp only [QI, Qm, Qu, upd, ↓reduceIte, Qnr, Qnv]; first | refine Qf (htake _ _) (.keep (.v _)) ⟨rfl, rfl⟩ | refine Qf List.take_length (.keep (.v _)) ⟨rfl, rfl⟩
def ZB (op : Int) : Int := if op = 1 ∨ op = 2 then 0 else if op = 11 ∨ op = 12 then 1 else 2
def Xn (g : G) : Bool := if g.op = 0 then Q3 ⟨0, g.name, g.args⟩ else
  decide (0 < g.op ∧ g.op ≤ 12) && (YU g.name && (decide ((g.args.length : Int) = ZB g.op) && (runL g.args 200 20).1))
end Go.Proofs.YtehjodmnajgdgaaGreatDoor.Ab
set_option maxRecDepth 4000
namespace Go.Proofs.YtehjodmnajgdgaaGreatDoor.Ab
open Go.Proofs
theorem Y8 {s : ByteArray} (h : XV s = true) : 1 ≤ s.size ∧ s.size ≤ 40 := by
  rw [XV, Bool.and_eq_true, decide_eq_true_eq] at h
  exact ⟨h.1.1, h.1.2.1⟩
theorem QbV (b : Bool) (x : ByteArray) : (encB b x).size ≤ x.size + 2 := by
  rw [encB]; split
  · rw [QE, QE]; have : lpa.size = 1 := rfl; have : rpa.size = 1 := rfl; omega
  · omega
theorem QfS (l : List ByteArray) : ∀ f, (Yh f l).size ≤ (l.map fun x => x.size + 2).sum := by
  induction l with
  | nil => intro f; rw [Yh]; simp
  | cons x l ih =>
    intro f
    have h1 := ih false
    rw [QiS f _ x l rfl, List.map_cons, List.sum_cons]
    split <;> omega
theorem Qh3 (t : ByteArray) : (vOf t).size = t.size + 1 := by rw [vOf, QE]; have : ({ data := #[86] } : ByteArray).size = 1 := rfl; omega
theorem QbW {s : ByteArray} (h : YU s = true) : s.size = 0 := by
  rw [YU, QcP, decide_eq_true_eq] at h
  exact h
mutual
theorem T.Qm3 : ∀ (t : T) (b d : Int), (t.run b d).1 = true → t.lex ∧ (t.txt.size : Int) + 4 ≤ 60 * (b - (t.run b d).2) ∧ 0 < t.txt.size ∧ (t.run b d).2 ≤ b
  | .mk k i n l, b, d, h => by
    rw [T.run] at h ⊢
    split at h
    · cases h
    rename_i h1
    rw [if_neg h1]
    split at h
    · rename_i k0
      subst k0
      rw [if_pos rfl]
      simp only [Bool.and_eq_true, decide_eq_true_eq] at h
      obtain ⟨⟨hr, hn⟩, hl⟩ := h
      have hl' : l = [] := by simpa using hl
      subst hl'
      have hn' := QbW hn
      have hz := QgJ i (by omega) (by omega)
      have hp := Qk9 i
      have et : (T.mk 0 i n []).txt = decZ i := by rw [T.txt, if_neg (by simp [T.oper, T.kind]), if_pos rfl]
      rw [et]
      refine ⟨⟨fun _ => by omega, fun e => (by cases e), by simp, by omega, trivial⟩, ?_, hp, ?_⟩ <;> simp only <;> omega
    · rename_i k0
      rw [if_neg k0]
      split at h
      · rename_i k1
        subst k1
        rw [if_pos rfl]
        simp only [Bool.and_eq_true, decide_eq_true_eq] at h
        obtain ⟨⟨hr, hn⟩, hl⟩ := h
        have hl' : l = [] := by simpa using hl
        subst hl'
        have hn' := QbW hn
        have hz := Qcl (n := i.toNat) (by omega)
        have et : (T.mk 1 i n []).txt = vOf (decN i.toNat) := by rw [T.txt, if_neg (by simp [T.oper, T.kind]), if_neg k0, if_pos rfl]
        rw [et, Qh3]
        refine ⟨⟨fun e => (by cases e), fun _ => hr, by simp, by omega, trivial⟩, ?_, by omega, ?_⟩ <;> simp only <;> omega
      · rename_i k1
        rw [if_neg k1]
        split at h
        · rename_i k2
          subst k2
          rw [if_pos rfl]
          split at h
          · cases h
          rename_i h3
          rw [if_neg h3]
          split at h
          · cases h
          rename_i h4
          rw [if_neg h4]
          have hL := Qcr l (b - 1) (d - 1) h
          have hll : l.length ≤ 6 := by omega
          have hns : 1 ≤ n.size ∧ n.size ≤ 40 := by
            simp only [Bool.not_eq_true', Bool.and_eq_true, not_and, Bool.not_eq_false, decide_eq_true_eq] at h4
            cases hrb : XV n with
            | true => exact Y8 hrb
            | false =>
              rw [hrb] at h4
              have hop : opB n = true := by
                cases ho : opB n with
                | true => rfl
                | false => rw [ho] at h4; simp at h4
              by_cases hs1 : n.size = 1
              · omega
              · rw [QdM hs1] at hop; cases hop
          refine ⟨⟨fun e => (by cases e), fun e => (by cases e), by omega, by omega, hL.1⟩, ?_⟩
          by_cases ho : (T.mk 2 i n l).oper = 0
          · have et : (T.mk 2 i n l).txt = funT n (txts l) := by rw [T.txt, if_neg (by simpa using ho), if_neg k0, if_neg k1]
            rw [et, funT, QE]
            have e1 := QbV (decide (0 < (txts l).length)) (Yh true (txts l))
            have e2 := QfS (txts l) true
            have e3 := hL.2.1
            refine ⟨?_, ?_, ?_⟩ <;> omega
          · have hk : l.length = 2 := by
              simp only [T.oper] at ho
              split at ho
              · exact absurd rfl ho
              · rename_i hq; exact Decidable.byContradiction fun e => hq (.inr e)
            match l, hk, hL with
            | [a, c], _, hL =>
              have et : (T.mk 2 i n [a, c]).txt = binT (ofB n) n a.oper c.oper a.txt c.txt := by rw [T.txt, if_pos ho]; rfl
              rw [et, binT]
              simp only [QE]
              have hsp : ({ data := #[32] } : ByteArray).size = 1 := rfl
              have e1 := QbV ((a.oper == 1) && (ofB n == 2)) a.txt
              have e2 := QbV ((c.oper != 0) && ((c.oper == 1) || (ofB n == 2))) c.txt
              have e3 := hL.2.1
              have e4 := hL.2.2
              simp only [txts, QnA, QnE, List.sum_cons, List.sum_nil] at e3
              refine ⟨?_, ?_, ?_⟩ <;> omega
        · cases h
theorem Qcr : ∀ (l : List T) (b d : Int), (runL l b d).1 = true → lexL l ∧ ((((txts l).map fun x => x.size + 2).sum : Nat) : Int) ≤ 60 * (b - (runL l b d).2) ∧ (runL l b d).2 ≤ b
  | [], b, d, h => by rw [runL]; exact ⟨trivial, by simp [txts], Int.le_refl _⟩
  | t :: l, b, d, h => by
    rw [runL] at h ⊢
    split at h
    · rename_i h1
      rw [if_pos h1]
      have ht := T.Qm3 t b d h1
      have hl := Qcr l _ d h
      refine ⟨⟨ht.1, hl.1⟩, ?_, ?_⟩
      · rw [txts, List.map_cons, List.sum_cons]
        have := hl.2.1
        have := ht.2.1
        omega
      · have := hl.2.2; have := ht.2.2.2; omega
    · cases h
end
end Go.Proofs.YtehjodmnajgdgaaGreatDoor.Ab
set_option maxRecDepth 4000
namespace Go.Proofs.YtehjodmnajgdgaaGreatDoor.Ab
open Go.Proofs
def Qdv (op : Int) : ByteArray := if op = 3 then { data := #[61] } else if op = 4 then { data := #[105, 115] } else if op = 5 then { data := #[61, 61] } else if op = 6 then { data := #[92, 61] } else if op = 7 then { data := #[60] } else if op = 8 then { data := #[61, 60] } else if op = 9 then { data := #[61, 58, 61] } else { data := #[61, 92, 61] }
theorem Qjs : Pure Tryz.prog 41 [.i 3] (.v (.string { data := #[61] })) := by
  intro h
  refine Qe Tryz.func41 rfl Tryz.call41 Tryz.ntmps41 (congrArg Array.toList Tryz.results41) (by simp) ?_
  repeat (first | (((with_reducible refine Qa fun K E hK hE => ?_)); simp -implicitDefEqProofs only [Qd, Qb, Qg, OpW, aop, undef, AS.ev, Qc, Qn, QG, Qi, Qw, Qns, ↓reduceIte, Nat.reduceLT, Nat.reduceEqDiff, aBin, Qnn, QS, Qnt]) | (with_reducible (first | refine Qh fun K hK => ?_ | refine Qq ?_ | refine Ql ?_ | refine Qy ?_ | refine QF ?_)) | ((with_reducible refine hK _ ?_); clear hK) | (refine Qk rfl ?_; simp only [↓reduceIte]))
  simp only [QI, Qm, Qu, upd, ↓reduceIte, Qnr, Qnv]; first | refine Qf (htake _ _) (.keep (.v _)) ⟨rfl, rfl⟩ | refine Qf List.take_length (.keep (.v _)) ⟨rfl, rfl⟩
theorem QjK : Pure Tryz.prog 41 [.i 4] (.v (.string { data := #[105, 115] })) := by
  intro h
  have z3 : ((4 : Int) == 3) = false := by decide
  refine Qe Tryz.func41 rfl Tryz.call41 Tryz.ntmps41 (congrArg Array.toList Tryz.results41) (by simp) ?_
  repeat (first | (((with_reducible refine Qa fun K E hK hE => ?_)); simp -implicitDefEqProofs only [Qd, Qb, Qg, OpW, aop, undef, AS.ev, Qc, Qn, QG, Qi, Qw, Qns, ↓reduceIte, Nat.reduceLT, Nat.reduceEqDiff, aBin, Qnn, QS, Qnt, z3]) | (with_reducible (first | refine Qh fun K hK => ?_ | refine Qq ?_ | refine Ql ?_ | refine Qy ?_ | refine QF ?_)) | ((with_reducible refine hK _ ?_); clear hK) | (refine Qk rfl ?_; simp only [↓reduceIte, Qnp]))
  simp only [QI, Qm, Qu, upd, ↓reduceIte, Qnr, Qnv]; first | refine Qf (htake _ _) (.keep (.v _)) ⟨rfl, rfl⟩ | refine Qf List.take_length (.keep (.v _)) ⟨rfl, rfl⟩
theorem QkI : Pure Tryz.prog 41 [.i 5] (.v (.string { data := #[61, 61] })) := by
  intro h
  have z3 : ((5 : Int) == 3) = false := by decide
  have z4 : ((5 : Int) == 4) = false := by decide
  refine Qe Tryz.func41 rfl Tryz.call41 Tryz.ntmps41 (congrArg Array.toList Tryz.results41) (by simp) ?_
  repeat (first | (((with_reducible refine Qa fun K E hK hE => ?_)); simp -implicitDefEqProofs only [Qd, Qb, Qg, OpW, aop, undef, AS.ev, Qc, Qn, QG, Qi, Qw, Qns, ↓reduceIte, Nat.reduceLT, Nat.reduceEqDiff, aBin, Qnn, QS, Qnt, z3, z4]) | (with_reducible (first | refine Qh fun K hK => ?_ | refine Qq ?_ | refine Ql ?_ | refine Qy ?_ | refine QF ?_)) | ((with_reducible refine hK _ ?_); clear hK) | (refine Qk rfl ?_; simp only [↓reduceIte, Qnp]))
  simp only [QI, Qm, Qu, upd, ↓reduceIte, Qnr, Qnv]; first | refine Qf (htake _ _) (.keep (.v _)) ⟨rfl, rfl⟩ | refine Qf List.take_length (.keep (.v _)) ⟨rfl, rfl⟩
theorem Qjh : Pure Tryz.prog 41 [.i 6] (.v (.string { data := #[92, 61] })) := by
  intro h
  have z3 : ((6 : Int) == 3) = false := by decide
  have z4 : ((6 : Int) == 4) = false := by decide
  have z5 : ((6 : Int) == 5) = false := by decide
  refine Qe Tryz.func41 rfl Tryz.call41 Tryz.ntmps41 (congrArg Array.toList Tryz.results41) (by simp) ?_
  repeat (first | (((with_reducible refine Qa fun K E hK hE => ?_)); simp -implicitDefEqProofs only [Qd, Qb, Qg, OpW, aop, undef, AS.ev, Qc, Qn, QG, Qi, Qw, Qns, ↓reduceIte, Nat.reduceLT, Nat.reduceEqDiff, aBin, Qnn, QS, Qnt, z3, z4, z5]) | (with_reducible (first | refine Qh fun K hK => ?_ | refine Qq ?_ | refine Ql ?_ | refine Qy ?_ | refine QF ?_)) | ((with_reducible refine hK _ ?_); clear hK) | (refine Qk rfl ?_; simp only [↓reduceIte, Qnp]))
  simp only [QI, Qm, Qu, upd, ↓reduceIte, Qnr, Qnv]; first | refine Qf (htake _ _) (.keep (.v _)) ⟨rfl, rfl⟩ | refine Qf List.take_length (.keep (.v _)) ⟨rfl, rfl⟩
theorem QjS : Pure Tryz.prog 41 [.i 7] (.v (.string { data := #[60] })) := by
  intro h
  have z3 : ((7 : Int) == 3) = false := by decide
  have z4 : ((7 : Int) == 4) = false := by decide
  have z5 : ((7 : Int) == 5) = false := by decide
  have z6 : ((7 : Int) == 6) = false := by decide
  refine Qe Tryz.func41 rfl Tryz.call41 Tryz.ntmps41 (congrArg Array.toList Tryz.results41) (by simp) ?_
  repeat (first | (((with_reducible refine Qa fun K E hK hE => ?_)); simp -implicitDefEqProofs only [Qd, Qb, Qg, OpW, aop, undef, AS.ev, Qc, Qn, QG, Qi, Qw, Qns, ↓reduceIte, Nat.reduceLT, Nat.reduceEqDiff, aBin, Qnn, QS, Qnt, z3, z4, z5, z6]) | (with_reducible (first | refine Qh fun K hK => ?_ | refine Qq ?_ | refine Ql ?_ | refine Qy ?_ | refine QF ?_)) | ((with_reducible refine hK _ ?_); clear hK) | (refine Qk rfl ?_; simp only [↓reduceIte, Qnp]))
  simp only [QI, Qm, Qu, upd, ↓reduceIte, Qnr, Qnv]; first | refine Qf (htake _ _) (.keep (.v _)) ⟨rfl, rfl⟩ | refine Qf List.take_length (.keep (.v _)) ⟨rfl, rfl⟩
theorem Qkq : Pure Tryz.prog 41 [.i 8] (.v (.string { data := #[61, 60] })) := by
  intro h
  have z3 : ((8 : Int) == 3) = false := by decide
  have z4 : ((8 : Int) == 4) = false := by decide
  have z5 : ((8 : Int) == 5) = false := by decide
  have z6 : ((8 : Int) == 6) = false := by decide
  have z7 : ((8 : Int) == 7) = false := by decide
  refine Qe Tryz.func41 rfl Tryz.call41 Tryz.ntmps41 (congrArg Array.toList Tryz.results41) (by simp) ?_
  repeat (first | (((with_reducible refine Qa fun K E hK hE => ?_)); simp -implicitDefEqProofs only [Qd, Qb, Qg, OpW, aop, undef, AS.ev, Qc, Qn, QG, Qi, Qw, Qns, ↓reduceIte, Nat.reduceLT, Nat.reduceEqDiff, aBin, Qnn, QS, Qnt, z3, z4, z5, z6, z7]) | (with_reducible (first | refine Qh fun K hK => ?_ | refine Qq ?_ | refine Ql ?_ | refine Qy ?_ | refine QF ?_)) | ((with_reducible refine hK _ ?_); clear hK) | (refine Qk rfl ?_; simp only [↓reduceIte, Qnp]))
  simp only [QI, Qm, Qu, upd, ↓reduceIte, Qnr, Qnv]; first | refine Qf (htake _ _) (.keep (.v _)) ⟨rfl, rfl⟩ | refine Qf List.take_length (.keep (.v _)) ⟨rfl, rfl⟩
theorem Qj4 : Pure Tryz.prog 41 [.i 9] (.v (.string { data := #[61, 58, 61] })) := by
  intro h
  have z3 : ((9 : Int) == 3) = false := by decide
  have z4 : ((9 : Int) == 4) = false := by decide
  have z5 : ((9 : Int) == 5) = false := by decide
  have z6 : ((9 : Int) == 6) = false := by decide
  have z7 : ((9 : Int) == 7) = false := by decide
  have z8 : ((9 : Int) == 8) = false := by decide
  refine Qe Tryz.func41 rfl Tryz.call41 Tryz.ntmps41 (congrArg Array.toList Tryz.results41) (by simp) ?_
  repeat (first | (((with_reducible refine Qa fun K E hK hE => ?_)); simp -implicitDefEqProofs only [Qd, Qb, Qg, OpW, aop, undef, AS.ev, Qc, Qn, QG, Qi, Qw, Qns, ↓reduceIte, Nat.reduceLT, Nat.reduceEqDiff, aBin, Qnn, QS, Qnt, z3, z4, z5, z6, z7, z8]) | (with_reducible (first | refine Qh fun K hK => ?_ | refine Qq ?_ | refine Ql ?_ | refine Qy ?_ | refine QF ?_)) | ((with_reducible refine hK _ ?_); clear hK) | (refine Qk rfl ?_; simp only [↓reduceIte, Qnp]))
  simp only [QI, Qm, Qu, upd, ↓reduceIte, Qnr, Qnv]; first | refine Qf (htake _ _) (.keep (.v _)) ⟨rfl, rfl⟩ | refine Qf List.take_length (.keep (.v _)) ⟨rfl, rfl⟩
theorem QiW : Pure Tryz.prog 41 [.i 10] (.v (.string { data := #[61, 92, 61] })) := by
  intro h
  have z3 : ((10 : Int) == 3) = false := by decide
  have z4 : ((10 : Int) == 4) = false := by decide
  have z5 : ((10 : Int) == 5) = false := by decide
  have z6 : ((10 : Int) == 6) = false := by decide
  have z7 : ((10 : Int) == 7) = false := by decide
  have z8 : ((10 : Int) == 8) = false := by decide
  have z9 : ((10 : Int) == 9) = false := by decide
  refine Qe Tryz.func41 rfl Tryz.call41 Tryz.ntmps41 (congrArg Array.toList Tryz.results41) (by simp) ?_
  repeat (first | (((with_reducible refine Qa fun K E hK hE => ?_)); simp -implicitDefEqProofs only [Qd, Qb, Qg, OpW, aop, undef, AS.ev, Qc, Qn, QG, Qi, Qw, Qns, ↓reduceIte, Nat.reduceLT, Nat.reduceEqDiff, aBin, Qnn, QS, Qnt, z3, z4, z5, z6, z7, z8, z9]) | (with_reducible (first | refine Qh fun K hK => ?_ | refine Qq ?_ | refine Ql ?_ | refine Qy ?_ | refine QF ?_)) | ((with_reducible refine hK _ ?_); clear hK) | (refine Qk rfl ?_; simp only [↓reduceIte, Qnp]))
  simp only [QI, Qm, Qu, upd, ↓reduceIte, Qnr, Qnv]; first | refine Qf (htake _ _) (.keep (.v _)) ⟨rfl, rfl⟩ | refine Qf List.take_length (.keep (.v _)) ⟨rfl, rfl⟩
theorem QgI (op : Int) (h3 : 3 ≤ op) (h10 : op ≤ 10) : Pure Tryz.prog 41 [.i op] (.v (.string (Qdv op))) := by
  have : op = 3 ∨ op = 4 ∨ op = 5 ∨ op = 6 ∨ op = 7 ∨ op = 8 ∨ op = 9 ∨ op = 10 := by omega
  rcases this with rfl | rfl | rfl | rfl | rfl | rfl | rfl | rfl
  · exact Qjs
  · exact QjK
  · exact QkI
  · exact Qjh
  · exact QjS
  · exact Qkq
  · exact Qj4
  · exact QiW
theorem Qfi (op : Int) (h3 : 3 ≤ op) (h10 : op ≤ 10) : (Qdv op).size ≤ 3 := by
  have : op = 3 ∨ op = 4 ∨ op = 5 ∨ op = 6 ∨ op = 7 ∨ op = 8 ∨ op = 9 ∨ op = 10 := by omega
  rcases this with rfl | rfl | rfl | rfl | rfl | rfl | rfl | rfl <;> decide
abbrev QjT : ByteArray := { data := #[116, 114, 117, 101] }
abbrev Qjy : ByteArray := { data := #[102, 97, 105, 108] }
abbrev intB : ByteArray := { data := #[105, 110, 116] }
abbrev grdB : ByteArray := { data := #[103, 114, 111, 117, 110, 100] }
def pairT (op : Int) : List ByteArray → ByteArray
  | [x, y] => (x ++ (({ data := #[32] } : ByteArray) ++ Qdv op ++ { data := #[32] })) ++ y
  | _ => .empty
def Zo (g : G) : ByteArray := if g.op = 0 then funT g.name (txts g.args) else if g.op = 1 then QjT else if g.op = 2 then Qjy else if g.op = 11 then funT intB (txts g.args) else if g.op = 12 then funT grdB (txts g.args) else pairT g.op (txts g.args)
theorem Qmv {h : AH} (hG : XT h) (u : Bool) (tx : ByteArray) : XT (HB (h ++ [AB.dead, AB.dead]) h.length (h.length + 1) u tx) := by
  obtain ⟨k, ty, fr, e⟩ := hG
  refine ⟨k, ty, fr, ?_⟩
  have hk := QN e
  rw [HB, Ym _ _ (by omega) (by omega), List.getElem?_append_left hk, e]
section
variable {h : AH} {i j p : Nat} (hi : i < h.length) (hj : j < h.length) (hij : i ≠ j) (hpi : i ≠ p) (hpj : j ≠ p)
theorem QjA (hi : i < h.length) (hj : j < h.length) (hij : i ≠ j) (hpi : i ≠ p) (hpj : j ≠ p) (g : G) (gp : h[p]? = some (.cells 34 2 [g.atom])) (hx : lexL g.args) (hl : g.args.length ≤ 1000000)
    (hG : XT (HB h i j true (.empty))) (u : Bool) (tx : ByteArray) (hs : tx.size + (funT g.name (txts g.args)).size ≤ 140737488355328) :
    Wri 46 [.ptr i 0 0, .ptr p 0 0] h i j u tx (funT g.name (txts g.args)) := by
  have k1 : ∀ u tx, (HB h i j u tx)[p]? = some (.cells 34 2 [.agg [.v (.string g.name), .sl 4 (avs g.args) none]]) := fun u tx => by
    rw [HB, Ym _ _ hpi hpj, gp]; rfl
  have c1 := ZM hi hj hij g.args hl g.name (fun a ha h hi hj hG tx hs => Qbz g.args hx i j hij a ha h hi hj hG true tx hs) hG u tx hs
  rw [Wri] at c1
  refine Qe Tryz.func46 rfl Tryz.call46 Tryz.ntmps46 (congrArg Array.toList Tryz.results46) (by simp) ?_
  repeat (first | ((first | (with_reducible (first | refine Qs fun K E hK hE => ?_ | refine FunW.ret (FunW.call c1) ?_))); simp -implicitDefEqProofs only [Qd, Qb, Qg, OpW, QO, aop, undef, AS.ev, Qc, Qi, Qw, Qns, QnL, QB, ↓reduceIte, Nat.reduceLT, Nat.reduceEqDiff, Qnx, QnK, Qp, QK, QL, Qnl, Qnm, Qnn, QnA, QnE, ti9, ti22, QbF, Qc1, k1]) | ((with_reducible refine hK _ ?_); clear hK))
  simp -implicitDefEqProofs only [Qnn, Qnr, List.mapM_nil, Option.pure_def, Qnn, QI, Qm, Qnv]
  exact .inr ⟨rfl, rfl⟩
theorem QiF (hi : i < h.length) (hj : j < h.length) (hij : i ≠ j) (hpi : i ≠ p) (hpj : j ≠ p) (g : G) (gp : h[p]? = some (.cells 30 3 [g.goal])) (hx : lexL g.args) (hl : g.args.length ≤ 1000000) (ho : g.op = 0)
    (hG : XT (HB h i j true (.empty))) (u : Bool) (tx : ByteArray) (hs : tx.size + (funT g.name (txts g.args)).size ≤ 140737488355328) :
    Wri 38 [.ptr i 0 0, .ptr p 0 0] h i j u tx (funT g.name (txts g.args)) := by
  have k1 : ∀ u tx, (HB h i j u tx)[p]? = some (.cells 30 3 [.agg [.i 0, .v (.string g.name), .sl 4 (avs g.args) none]]) := fun u tx => by
    rw [HB, Ym _ _ hpi hpj, gp, ← ho]; rfl
  have c1 := ZM hi hj hij g.args hl g.name (fun a ha h hi hj hG tx hs => Qbz g.args hx i j hij a ha h hi hj hG true tx hs) hG u tx hs
  rw [Wri] at c1
  refine Qe Tryz.func38 rfl Tryz.call38 Tryz.ntmps38 (congrArg Array.toList Tryz.results38) (by simp) ?_
  repeat (first | ((first | (with_reducible (first | refine Qa fun K E hK hE => ?_ | refine Qs fun K E hK hE => ?_ | refine FunW.ret (FunW.call c1) ?_))); simp -implicitDefEqProofs only [Qd, Qb, Qg, OpW, QO, aop, undef, AS.ev, Qc, Qn, Qi, Qw, Qns, QnL, QB, ↓reduceIte, Nat.reduceLT, Nat.reduceEqDiff, Qnx, QnK, Qp, QK, QL, aBin, Qnl, Qnm, Qnn, QnA, QnE, QS, Qnt, ti3, ti9, ti22, Yq, QaO, Zq, k1]) | (with_reducible (first | refine Qq ?_ | refine QD ?_)) | ((with_reducible refine hK _ ?_); clear hK) | (refine Qk rfl ?_; simp only [↓reduceIte]))
  simp -implicitDefEqProofs only [Qnn, Qnr, List.mapM_nil, Option.pure_def, Qnn, QI, Qm, Qnv]
  exact .inr ⟨rfl, rfl⟩
theorem QiQ (hi : i < h.length) (hj : j < h.length) (hij : i ≠ j) (hpi : i ≠ p) (hpj : j ≠ p) (g : G) (gp : h[p]? = some (.cells 30 3 [g.goal])) (hx : lexL g.args) (hl : g.args.length ≤ 1000000) (ho : g.op = 1)
    (hG : XT (HB h i j true (.empty))) (u : Bool) (tx : ByteArray) (hs : tx.size + (QjT).size ≤ 140737488355328) :
    Wri 38 [.ptr i 0 0, .ptr p 0 0] h i j u tx (QjT) := by
  have k1 : ∀ u tx, (HB h i j u tx)[p]? = some (.cells 30 3 [.agg [.i 1, .v (.string g.name), .sl 4 (avs g.args) none]]) := fun u tx => by
    rw [HB, Ym _ _ hpi hpj, gp, ← ho]; rfl
  have z0 : ((1 : Int) == 0) = false := by decide
  have c1 := wstr hi hj hij u tx QjT hs
  have f6 := fun u tx => Qhb (h := h) hi hij u tx
  refine Qe Tryz.func38 rfl Tryz.call38 Tryz.ntmps38 (congrArg Array.toList Tryz.results38) (by simp) ?_
  repeat (first | ((first | (with_reducible (first | refine Qa fun K E hK hE => ?_ | refine Qs fun K E hK hE => ?_ | refine FunW.ret (FunW.call c1) ?_))); simp -implicitDefEqProofs only [Qd, Qb, Qg, OpW, QO, aop, undef, AS.ev, Qc, Qn, QG, Qi, Qw, Qns, QnL, QB, ↓reduceIte, Nat.reduceLT, Nat.reduceEqDiff, QnK, Qp, QK, QL, aBin, Qnl, Qnn, QnA, QnE, QS, Qnt, ti3, Yq, YH, QX, k1, f6, z0]) | (with_reducible (first | refine Qq ?_ | refine QD ?_)) | ((with_reducible refine hK _ ?_); clear hK) | (refine Qk rfl ?_; simp only [↓reduceIte, Qnp]))
  simp -implicitDefEqProofs only [Qnn, Qnr, List.mapM_nil, Option.pure_def, Qnn, QI, Qm, Qnv]
  exact .inr ⟨rfl, rfl⟩
theorem QiJ (hi : i < h.length) (hj : j < h.length) (hij : i ≠ j) (hpi : i ≠ p) (hpj : j ≠ p) (g : G) (gp : h[p]? = some (.cells 30 3 [g.goal])) (hx : lexL g.args) (hl : g.args.length ≤ 1000000) (ho : g.op = 2)
    (hG : XT (HB h i j true (.empty))) (u : Bool) (tx : ByteArray) (hs : tx.size + (Qjy).size ≤ 140737488355328) :
    Wri 38 [.ptr i 0 0, .ptr p 0 0] h i j u tx (Qjy) := by
  have k1 : ∀ u tx, (HB h i j u tx)[p]? = some (.cells 30 3 [.agg [.i 2, .v (.string g.name), .sl 4 (avs g.args) none]]) := fun u tx => by
    rw [HB, Ym _ _ hpi hpj, gp, ← ho]; rfl
  have z0 : ((2 : Int) == 0) = false := by decide
  have z1 : ((2 : Int) == 1) = false := by decide
  have c1 := wstr hi hj hij u tx Qjy hs
  have f6 := fun u tx => Qhb (h := h) hi hij u tx
  refine Qe Tryz.func38 rfl Tryz.call38 Tryz.ntmps38 (congrArg Array.toList Tryz.results38) (by simp) ?_
  repeat (first | ((first | (with_reducible (first | refine Qa fun K E hK hE => ?_ | refine Qs fun K E hK hE => ?_ | refine FunW.ret (FunW.call c1) ?_))); simp -implicitDefEqProofs only [Qd, Qb, Qg, OpW, QO, aop, undef, AS.ev, Qc, Qn, QG, Qi, Qw, Qns, QnL, QB, ↓reduceIte, Nat.reduceLT, Nat.reduceEqDiff, QnK, Qp, QK, QL, aBin, Qnl, Qnn, QnA, QnE, QS, Qnt, ti3, Yq, YH, QX, k1, f6, z0, z1]) | (with_reducible (first | refine Qq ?_ | refine QD ?_)) | ((with_reducible refine hK _ ?_); clear hK) | (refine Qk rfl ?_; simp only [↓reduceIte, Qnp]))
  simp -implicitDefEqProofs only [Qnn, Qnr, List.mapM_nil, Option.pure_def, Qnn, QI, Qm, Qnv]
  exact .inr ⟨rfl, rfl⟩
theorem Qju (hi : i < h.length) (hj : j < h.length) (hij : i ≠ j) (hpi : i ≠ p) (hpj : j ≠ p) (g : G) (gp : h[p]? = some (.cells 30 3 [g.goal])) (hx : lexL g.args) (hl : g.args.length ≤ 1000000) (ho : g.op = 11)
    (hG : XT (HB h i j true (.empty))) (u : Bool) (tx : ByteArray) (hs : tx.size + (funT intB (txts g.args)).size ≤ 140737488355328) :
    Wri 38 [.ptr i 0 0, .ptr p 0 0] h i j u tx (funT intB (txts g.args)) := by
  have k1 : ∀ u tx, (HB h i j u tx)[p]? = some (.cells 30 3 [.agg [.i 11, .v (.string g.name), .sl 4 (avs g.args) none]]) := fun u tx => by
    rw [HB, Ym _ _ hpi hpj, gp, ← ho]; rfl
  have z0 : ((11 : Int) == 0) = false := by decide
  have z1 : ((11 : Int) == 1) = false := by decide
  have z2 : ((11 : Int) == 2) = false := by decide
  have c1 := ZM hi hj hij g.args hl intB (fun a ha h hi hj hG tx hs => Qbz g.args hx i j hij a ha h hi hj hG true tx hs) hG u tx hs
  rw [Wri] at c1
  refine Qe Tryz.func38 rfl Tryz.call38 Tryz.ntmps38 (congrArg Array.toList Tryz.results38) (by simp) ?_
  repeat (first | ((first | (with_reducible (first | refine Qa fun K E hK hE => ?_ | refine Qs fun K E hK hE => ?_ | refine FunW.ret (FunW.call c1) ?_))); simp -implicitDefEqProofs only [Qd, Qb, Qg, OpW, QO, aop, undef, AS.ev, Qc, Qn, QG, Qi, Qw, Qns, QnL, QB, ↓reduceIte, Nat.reduceLT, Nat.reduceEqDiff, Qnx, QnK, Qp, QK, QL, aBin, Qnl, Qnm, Qnn, QnA, QnE, QS, Qnt, ti3, ti22, Yq, Zq, k1, z0, z1, z2]) | (with_reducible (first | refine Qq ?_ | refine QD ?_)) | ((with_reducible refine hK _ ?_); clear hK) | (refine Qk rfl ?_; simp only [↓reduceIte, Qnp]))
  simp -implicitDefEqProofs only [Qnn, Qnr, List.mapM_nil, Option.pure_def, Qnn, QI, Qm, Qnv]
  exact .inr ⟨rfl, rfl⟩
theorem Qgy (hi : i < h.length) (hj : j < h.length) (hij : i ≠ j) (hpi : i ≠ p) (hpj : j ≠ p) (g : G) (gp : h[p]? = some (.cells 30 3 [g.goal])) (hx : lexL g.args) (hl : g.args.length ≤ 1000000) (ho : g.op = 12)
    (hG : XT (HB h i j true (.empty))) (u : Bool) (tx : ByteArray) (hs : tx.size + (funT grdB (txts g.args)).size ≤ 140737488355328) :
    Wri 38 [.ptr i 0 0, .ptr p 0 0] h i j u tx (funT grdB (txts g.args)) := by
  have k1 : ∀ u tx, (HB h i j u tx)[p]? = some (.cells 30 3 [.agg [.i 12, .v (.string g.name), .sl 4 (avs g.args) none]]) := fun u tx => by
    rw [HB, Ym _ _ hpi hpj, gp, ← ho]; rfl
  have z0 : ((12 : Int) == 0) = false := by decide
  have z1 : ((12 : Int) == 1) = false := by decide
  have z2 : ((12 : Int) == 2) = false := by decide
  have z11 : ((12 : Int) == 11) = false := by decide
  have c1 := ZM hi hj hij g.args hl grdB (fun a ha h hi hj hG tx hs => Qbz g.args hx i j hij a ha h hi hj hG true tx hs) hG u tx hs
  rw [Wri] at c1
  refine Qe Tryz.func38 rfl Tryz.call38 Tryz.ntmps38 (congrArg Array.toList Tryz.results38) (by simp) ?_
  repeat (first | ((first | (with_reducible (first | refine Qa fun K E hK hE => ?_ | refine Qs fun K E hK hE => ?_ | refine FunW.ret (FunW.call c1) ?_))); simp -implicitDefEqProofs only [Qd, Qb, Qg, OpW, QO, aop, undef, AS.ev, Qc, Qn, QG, Qi, Qw, Qns, QnL, QB, ↓reduceIte, Nat.reduceLT, Nat.reduceEqDiff, Qnx, QnK, Qp, QK, QL, aBin, Qnl, Qnm, Qnn, QnA, QnE, QS, Qnt, ti3, ti22, Yq, Zq, k1, z0, z1, z2, z11]) | (with_reducible (first | refine Qq ?_ | refine QD ?_)) | ((with_reducible refine hK _ ?_); clear hK) | (refine Qk rfl ?_; simp only [↓reduceIte, Qnp]))
  simp -implicitDefEqProofs only [Qnn, Qnr, List.mapM_nil, Option.pure_def, Qnn, QI, Qm, Qnv]
  exact .inr ⟨rfl, rfl⟩
theorem Qiu (hi : i < h.length) (hj : j < h.length) (hij : i ≠ j) (hpi : i ≠ p) (hpj : j ≠ p) (op : Int) (n : ByteArray) (a c : T) (gp : h[p]? = some (.cells 30 3 [.agg [.i op, .v (.string n), .sl 4 (avs [a, c]) none]])) (hx : lexL [a, c]) (h3 : 3 ≤ op) (h10 : op ≤ 10)
    (hG : XT (HB h i j true (.empty))) (u : Bool) (tx : ByteArray) (hs : tx.size + (pairT op (txts [a, c])).size ≤ 140737488355328) :
    Wri 38 [.ptr i 0 0, .ptr p 0 0] h i j u tx (pairT op (txts [a, c])) := by
  have k1 : ∀ u tx, (HB h i j u tx)[p]? = some (.cells 30 3 [.agg [.i op, .v (.string n), .sl 4 (avs [a, c]) none]]) := fun u tx => by
    rw [HB, Ym _ _ hpi hpj, gp]
  have f6 := fun u tx => Qhb (h := h) hi hij u tx
  have et : pairT op (txts [a, c]) = (a.txt ++ (({ data := #[32] } : ByteArray) ++ Qdv op ++ { data := #[32] })) ++ c.txt := rfl
  rw [et] at hs ⊢
  simp only [QE] at hs
  have hsp : ({ data := #[32] } : ByteArray).size = 1 := rfl
  have cb := QgI op h3 h10
  have hbz := Qfi op h3 h10
  have c1 := T.Qm2 a hx.1 i j hij h hi hj hG u tx (by omega)
  have c2 := wstr hi hj hij true (tx ++ a.txt) (({ data := #[32] } : ByteArray) ++ Qdv op ++ { data := #[32] }) (by simp only [QE]; omega)
  have c3 := T.Qm2 c hx.2.1 i j hij h hi hj hG true ((tx ++ a.txt) ++ (({ data := #[32] } : ByteArray) ++ Qdv op ++ { data := #[32] })) (by simp only [QE]; omega)
  rw [Wri] at c1 c3
  have z0 : (op == 0) = false := by simp; omega
  have z1 : (op == 1) = false := by simp; omega
  have z2 : (op == 2) = false := by simp; omega
  have z11 : (op == 11) = false := by simp; omega
  have z12 : (op == 12) = false := by simp; omega
  have hsa1 := fun xo yo => Xv Tryz.prog 9 xo yo ({ data := #[32] } : ByteArray) (Qdv op) (by omega)
  have hsa2 := fun xo yo => Xv Tryz.prog 9 xo yo (({ data := #[32] } : ByteArray) ++ Qdv op) { data := #[32] } (by rw [QE]; omega)
  have ga : (avs [a, c])[0]? = some a.av := rfl
  have gc : (avs [a, c])[1]? = some c.av := rfl
  have hll : (avs [a, c]).length = 2 := rfl
  have y0 : ((0 : Int) ≤ 1) = True := by simp
  have y1 : ((0 : Int) < ((2 : Nat) : Int)) = True := by simp
  have y2 : ((1 : Int) < ((2 : Nat) : Int)) = True := by simp
  refine Qe Tryz.func38 rfl Tryz.call38 Tryz.ntmps38 (congrArg Array.toList Tryz.results38) (by simp) ?_
  repeat (first | ((first | (with_reducible (first | refine Qa fun K E hK hE => ?_ | refine Qs fun K E hK hE => ?_ | refine QQ cb ?_ | refine FunW.ret (FunW.call c1) ?_ | refine FunW.ret (FunW.call c3) ?_ | refine Xs (FunW.call c2) YY ?_)) | (refine QR (id := 2) [(0, 0), (1, 0), (2, 0), (3, 0), (4, 0), (5, 1), (6, 0), (7, 0), (8, 2)] mixed (by kernel_rfl) fun K hK => ?_)); simp -implicitDefEqProofs only [Q4, Q1, Xb, Qd, Qb, Qg, OpW, QO, aop, undef, AS.ev, Qc, Qn, QG, Qi, Qw, Qns, QnL, QB, ↓reduceIte, Qny, Qnz, Nat.reduceAdd, Nat.reduceLT, Nat.reduceLeDiff, Nat.reduceEqDiff, Qnx, QnK, QnT, Qp, QK, QL, QZ, aBin, Qnl, Qnm, Qnn, Qno, QnA, QnE, QS, Int.toNat_zero, Int.toNat_one, T.QmN, T.QmO, ti3, ti22, ei22, ti24, Yq, Zq, YH, Qn8, QX, k1, f6, z0, z1, z2, z11, z12, hsa1, hsa2, ga, gc, hll, y0, y1, y2, T.QmO, T.QmN]) | (with_reducible (first | refine Qq ?_ | refine QD ?_)) | ((with_reducible refine hK _ ?_); clear hK) | (refine Qk rfl ?_; simp only [↓reduceIte, Qnp]))
  simp -implicitDefEqProofs only [Qnn, Qnr, List.mapM_nil, Option.pure_def, Qnn, QI, Qm, Qnv]
  exact .inr ⟨rfl, by simp only [ByteArray.append_assoc]⟩
end
end Go.Proofs.YtehjodmnajgdgaaGreatDoor.Ab
set_option maxRecDepth 4000
namespace Go.Proofs.YtehjodmnajgdgaaGreatDoor.Ab
open Go.Proofs
theorem Qe5 (g : G) : Pure Tryz.prog 37 [g.goal] (.b (Xn g)) := by
  intro h
  refine Qe Tryz.func37 rfl Tryz.call37 Tryz.ntmps37 (congrArg Array.toList Tryz.results37) (by simp) ?_
  iterate 4 (try (first | (((with_reducible refine Qa fun K E hK hE => ?_)); simp -implicitDefEqProofs only [Qd, Qb, Qg, OpW, aop, undef, AS.ev, Qc, Qn, Qr, Qw, Qns, AV.QmP, QnF, QnG, Qv, Qt, QC, QnH, ↓reduceIte, Qny, Qnz, Nat.reduceAdd, Nat.reduceLT, Qnx, Q7]) | ((with_reducible refine hK _ ?_); clear hK)))
  refine Y0 (fun s => g.op ≠ 0 ∧ s.tm 1 = .ptr h.length 0 0 ∧ s.tm 3 = .i (ZB g.op) ∧ s.h = h ++ [.cells 30 3 [g.goal]]) ?_ ?_
  · rintro ⟨tm, hp⟩ ⟨k0, t1, t3, hh⟩
    dsimp only at t1 t3 hh
    subst hh
    cases p0 : decide (g.op > 0)
    · skip
      have R : Xn g = false := by
        rw [Xn, if_neg k0, decide_eq_false (by simp at p0; omega)]; rfl
      iterate 2 (try (first | (((with_reducible refine Qa fun K E hK hE => ?_)); simp -implicitDefEqProofs only [Qd, Qb, Qg, OpW, aop, AS.ev, Qc, Qn, Qi, AV.QmP, QB, QU, QJ, QnF, QnG, Qv, QnH, ↓reduceIte, Qny, Qnz, Nat.reduceLT, Nat.reduceLeDiff, Qnx, QnT, X4, Yj, hlen, happ, Qnl, Qnn, QnA, QnE, QnN, QnM, QnO, QnD, Qnu, QnC, zi91, sp91]) | ((with_reducible refine hK _ ?_); clear hK)))
      (with_reducible refine Qa fun K E hK hE => ?_)
      (try simp only [QnW]); refine Qz 8 (fun K1 hK1 => ?_); simp -implicitDefEqProofs only [Qd, Qb, Qg, OpW, aop, undef, AS.ev, Qc, Qn, Qr, Qi, ↓reduceIte, Nat.reduceLT, Nat.reduceEqDiff, QnK, Qp, QK, QL, aBin, QT, Qnl, Qnm, Qnn, Qnq, Qno, Qnw, QnD, Xg, Qnp, beq_true, ti3, Yq, Q7, t1, p0]; refine hK1 _ ?_; clear hK1
      (try simp only [Qnu, QnC]); refine Qz 6 (fun K1 hK1 => ?_); simp -implicitDefEqProofs only [Qd, Qb, Qg, OpW, aop, undef, AS.ev, Qc, Qr, Qi, ↓reduceIte, Nat.reduceLT, Nat.reduceEqDiff, Qnl, Qnm, Qnq, Qno, Qnw, QnD, Qnp, beq_true]; refine hK1 _ ?_; clear hK1
      (try simp only [Qnu, QnC]); refine Qz 6 (fun K1 hK1 => ?_); simp -implicitDefEqProofs only [Qd, Qb, Qg, OpW, aop, undef, AS.ev, Qc, Qr, Qi, ↓reduceIte, Nat.reduceLT, Nat.reduceEqDiff, Qnl, Qnm, Qnq, Qno, Qnw, QnD, Qnp, beq_true]; refine hK1 _ ?_; clear hK1
      (try simp only [Qnu, QnC])
      simp -implicitDefEqProofs only [Qd, Qb, Qg, OpW, aop, undef, AS.ev, Qc, Qr, Qi, ↓reduceIte, Nat.reduceLT, Nat.reduceEqDiff, Qnl, Qnm, Qnq, Qno, Qnp, beq_true]
      repeat (first | (with_reducible refine Ql ?_) | ((with_reducible refine hK _ ?_); clear hK))
      simp only [QI, Qm, Qu, upd, ↓reduceIte, Qnr, Qnv]; first | refine Qf (htake _ _) (.keep (.v _)) ⟨by rw [R], rfl⟩ | refine Qf List.take_length (.keep (.v _)) ⟨by rw [R], rfl⟩
    cases p1 : decide (g.op ≤ 12)
    · skip
      have R : Xn g = false := by
        rw [Xn, if_neg k0, decide_eq_false (by simp at p1; omega)]; rfl
      iterate 2 (try (first | (((with_reducible refine Qa fun K E hK hE => ?_)); simp -implicitDefEqProofs only [Qd, Qb, Qg, OpW, aop, AS.ev, Qc, Qn, Qi, AV.QmP, QB, QU, QJ, QnF, QnG, Qv, QnH, ↓reduceIte, Qny, Qnz, Nat.reduceLT, Nat.reduceLeDiff, Qnx, QnT, X4, Yj, hlen, happ, Qnl, Qnn, QnA, QnE, QnN, QnM, QnO, QnD, Qnu, QnC, zi91, sp91]) | ((with_reducible refine hK _ ?_); clear hK)))
      (with_reducible refine Qa fun K E hK hE => ?_)
      (try simp only [QnW]); refine Qz 8 (fun K1 hK1 => ?_); simp -implicitDefEqProofs only [Qd, Qb, Qg, OpW, aop, AS.ev, Qc, Qn, Qi, ↓reduceIte, Nat.reduceLT, Nat.reduceEqDiff, QnK, Qp, QK, QL, aBin, QT, Qnl, Qnm, Qnn, Qnq, Qno, Qnw, QnD, Xe, Xg, Qnt, ti3, Yq, Q7, t1, p0, p1]; refine hK1 _ ?_; clear hK1
      (try simp only [Qnu, QnC]); refine Qz 6 (fun K1 hK1 => ?_); simp -implicitDefEqProofs only [Qd, Qb, Qg, OpW, aop, undef, AS.ev, Qc, Qr, Qi, ↓reduceIte, Nat.reduceLT, Nat.reduceEqDiff, Qnl, Qnm, Qnq, Qno, Qnw, QnD, Qnp, beq_true]; refine hK1 _ ?_; clear hK1
      (try simp only [Qnu, QnC]); refine Qz 6 (fun K1 hK1 => ?_); simp -implicitDefEqProofs only [Qd, Qb, Qg, OpW, aop, undef, AS.ev, Qc, Qr, Qi, ↓reduceIte, Nat.reduceLT, Nat.reduceEqDiff, Qnl, Qnm, Qnq, Qno, Qnw, QnD, Qnp, beq_true]; refine hK1 _ ?_; clear hK1
      (try simp only [Qnu, QnC])
      simp -implicitDefEqProofs only [Qd, Qb, Qg, OpW, aop, undef, AS.ev, Qc, Qr, Qi, ↓reduceIte, Nat.reduceLT, Nat.reduceEqDiff, Qnl, Qnm, Qnq, Qno, Qnp, beq_true]
      repeat (first | (with_reducible refine Ql ?_) | ((with_reducible refine hK _ ?_); clear hK))
      simp only [QI, Qm, Qu, upd, ↓reduceIte, Qnr, Qnv]; first | refine Qf (htake _ _) (.keep (.v _)) ⟨by rw [R], rfl⟩ | refine Qf List.take_length (.keep (.v _)) ⟨by rw [R], rfl⟩
    have p2 : decide (0 < g.op ∧ g.op ≤ 12) = true := decide_eq_true ⟨of_decide_eq_true p0, of_decide_eq_true p1⟩
    cases c3 : YU g.name
    · have c3' : (g.name.toList == ({ data := #[] } : ByteArray).toList) = false := c3
      have R : Xn g = false := by
        rw [Xn, if_neg k0, p2, c3]; rfl
      iterate 2 (try (first | (((with_reducible refine Qa fun K E hK hE => ?_)); simp -implicitDefEqProofs only [Qd, Qb, Qg, OpW, aop, AS.ev, Qc, Qn, Qi, AV.QmP, QB, QU, QJ, QnF, QnG, Qv, QnH, ↓reduceIte, Qny, Qnz, Nat.reduceLT, Nat.reduceLeDiff, Qnx, QnT, X4, Yj, hlen, happ, Qnl, Qnn, QnA, QnE, QnN, QnM, QnO, QnD, Qnu, QnC, zi91, sp91]) | ((with_reducible refine hK _ ?_); clear hK)))
      (with_reducible refine Qa fun K E hK hE => ?_)
      (try simp only [QnW]); refine Qz 8 (fun K1 hK1 => ?_); simp -implicitDefEqProofs only [Qd, Qb, Qg, OpW, aop, AS.ev, Qc, Qn, Qi, ↓reduceIte, Nat.reduceLT, Nat.reduceEqDiff, QnK, Qp, QK, QL, aBin, QT, Qnl, Qnm, Qnn, Qnq, Qno, Qnw, QnD, Xe, Xg, Qnt, ti3, Yq, Q7, t1, p0, p1]; refine hK1 _ ?_; clear hK1
      (try simp only [Qnu, QnC]); refine Qz 6 (fun K1 hK1 => ?_); simp -implicitDefEqProofs only [Qd, Qb, Qg, OpW, aop, AS.ev, Qc, QG, Qi, ↓reduceIte, Nat.reduceLT, Nat.reduceEqDiff, Qnx, Qp, QK, QL, aBin, QT, Qnl, Qnm, Qnn, Qnq, Qno, Qnw, QnD, QY, Qnt, ti9, QaO, Q7, t1, c3']; refine hK1 _ ?_; clear hK1
      (try simp only [Qnu, QnC]); refine Qz 6 (fun K1 hK1 => ?_); simp -implicitDefEqProofs only [Qd, Qb, Qg, OpW, aop, undef, AS.ev, Qc, Qr, Qi, ↓reduceIte, Nat.reduceLT, Nat.reduceEqDiff, Qnl, Qnm, Qnq, Qno, Qnw, QnD, Qnp, beq_true]; refine hK1 _ ?_; clear hK1
      (try simp only [Qnu, QnC])
      simp -implicitDefEqProofs only [Qd, Qb, Qg, OpW, aop, undef, AS.ev, Qc, Qr, Qi, ↓reduceIte, Nat.reduceLT, Nat.reduceEqDiff, Qnl, Qnm, Qnq, Qno, Qnp, beq_true]
      repeat (first | (with_reducible refine Ql ?_) | ((with_reducible refine hK _ ?_); clear hK))
      simp only [QI, Qm, Qu, upd, ↓reduceIte, Qnr, Qnv]; first | refine Qf (htake _ _) (.keep (.v _)) ⟨by rw [R], rfl⟩ | refine Qf List.take_length (.keep (.v _)) ⟨by rw [R], rfl⟩
    have c3' : (g.name.toList == ({ data := #[] } : ByteArray).toList) = true := c3
    cases c4 : ((g.args.length : Int) == ZB g.op)
    · have c5 : decide ((g.args.length : Int) = ZB g.op) = false := decide_eq_false (by simpa using c4)
      have R : Xn g = false := by
        rw [Xn, if_neg k0, p2, c3, c5]; rfl
      iterate 2 (try (first | (((with_reducible refine Qa fun K E hK hE => ?_)); simp -implicitDefEqProofs only [Qd, Qb, Qg, OpW, aop, AS.ev, Qc, Qn, Qi, AV.QmP, QB, QU, QJ, QnF, QnG, Qv, QnH, ↓reduceIte, Qny, Qnz, Nat.reduceLT, Nat.reduceLeDiff, Qnx, QnT, X4, Yj, hlen, happ, Qnl, Qnn, QnA, QnE, QnN, QnM, QnO, QnD, Qnu, QnC, zi91, sp91]) | ((with_reducible refine hK _ ?_); clear hK)))
      (with_reducible refine Qa fun K E hK hE => ?_)
      (try simp only [QnW]); refine Qz 8 (fun K1 hK1 => ?_); simp -implicitDefEqProofs only [Qd, Qb, Qg, OpW, aop, AS.ev, Qc, Qn, Qi, ↓reduceIte, Nat.reduceLT, Nat.reduceEqDiff, QnK, Qp, QK, QL, aBin, QT, Qnl, Qnm, Qnn, Qnq, Qno, Qnw, QnD, Xe, Xg, Qnt, ti3, Yq, Q7, t1, p0, p1]; refine hK1 _ ?_; clear hK1
      (try simp only [Qnu, QnC]); refine Qz 6 (fun K1 hK1 => ?_); simp -implicitDefEqProofs only [Qd, Qb, Qg, OpW, aop, AS.ev, Qc, QG, Qi, ↓reduceIte, Nat.reduceLT, Nat.reduceEqDiff, Qnx, Qp, QK, QL, aBin, QT, Qnl, Qnm, Qnn, Qnq, Qno, Qnw, QnD, QY, Qnt, ti9, QaO, Q7, t1, c3']; refine hK1 _ ?_; clear hK1
      (try simp only [Qnu, QnC]); refine Qz 6 (fun K1 hK1 => ?_); simp -implicitDefEqProofs only [Qd, Qb, Qg, OpW, aop, AS.ev, Qc, Qi, ↓reduceIte, Nat.reduceLT, Nat.reduceEqDiff, Qnx, Qp, QK, QL, aBin, aLen, QT, Qnl, Qnm, Qnn, Qnq, Qno, Qnw, QnD, QS, goInt, Qnt, QH, ti22, un22, Zq, Q7, QH, t1, t3, c4]; refine hK1 _ ?_; clear hK1
      (try simp only [Qnu, QnC])
      simp -implicitDefEqProofs only [Qd, Qb, Qg, OpW, aop, undef, AS.ev, Qc, Qr, Qi, ↓reduceIte, Nat.reduceLT, Nat.reduceEqDiff, Qnl, Qnm, Qnq, Qno, Qnp, beq_true]
      repeat (first | (with_reducible refine Ql ?_) | ((with_reducible refine hK _ ?_); clear hK))
      simp only [QI, Qm, Qu, upd, ↓reduceIte, Qnr, Qnv]; first | refine Qf (htake _ _) (.keep (.v _)) ⟨by rw [R], rfl⟩ | refine Qf List.take_length (.keep (.v _)) ⟨by rw [R], rfl⟩
    have c5 : decide ((g.args.length : Int) = ZB g.op) = true := decide_eq_true (by simpa using c4)
    have c6 : (g.args.length : Int) ≤ 2 := by
      have c7 : (g.args.length : Int) = ZB g.op := by simpa using c4
      rw [c7, ZB]; split <;> (try split) <;> decide
    have ca := QlP g.args (by omega) (h ++ [.cells 30 3 [g.goal], .cells 91 1 [.agg [.i 200]]]) (h.length + 1) (by rw [hget]; rfl)
    rw [hset] at ca
    have R : Xn g = (runL g.args 200 20).1 := by
      rw [Xn, if_neg k0, p2, c3, c5]; rfl
    iterate 2 (try (first | (((with_reducible refine Qa fun K E hK hE => ?_)); simp -implicitDefEqProofs only [Qd, Qb, Qg, OpW, aop, AS.ev, Qc, Qn, Qi, AV.QmP, QB, QU, QJ, QnF, QnG, Qv, QnH, ↓reduceIte, Qny, Qnz, Nat.reduceLT, Nat.reduceLeDiff, Qnx, QnT, X4, Yj, hlen, happ, Qnl, Qnn, QnA, QnE, QnN, QnM, QnO, QnD, Qnu, QnC, zi91, sp91]) | ((with_reducible refine hK _ ?_); clear hK)))
    (with_reducible refine Qa fun K E hK hE => ?_)
    (try simp only [QnW]); refine Qz 8 (fun K1 hK1 => ?_); simp -implicitDefEqProofs only [Qd, Qb, Qg, OpW, aop, AS.ev, Qc, Qn, Qi, ↓reduceIte, Nat.reduceLT, Nat.reduceEqDiff, QnK, Qp, QK, QL, aBin, QT, Qnl, Qnm, Qnn, Qnq, Qno, Qnw, QnD, Xe, Xg, Qnt, ti3, Yq, Q7, t1, p0, p1]; refine hK1 _ ?_; clear hK1
    (try simp only [Qnu, QnC]); refine Qz 6 (fun K1 hK1 => ?_); simp -implicitDefEqProofs only [Qd, Qb, Qg, OpW, aop, AS.ev, Qc, QG, Qi, ↓reduceIte, Nat.reduceLT, Nat.reduceEqDiff, Qnx, Qp, QK, QL, aBin, QT, Qnl, Qnm, Qnn, Qnq, Qno, Qnw, QnD, QY, Qnt, ti9, QaO, Q7, t1, c3']; refine hK1 _ ?_; clear hK1
    (try simp only [Qnu, QnC]); refine Qz 6 (fun K1 hK1 => ?_); simp -implicitDefEqProofs only [Qd, Qb, Qg, OpW, aop, AS.ev, Qc, Qi, ↓reduceIte, Nat.reduceLT, Nat.reduceEqDiff, Qnx, Qp, QK, QL, aBin, aLen, QT, Qnl, Qnm, Qnn, Qnq, Qno, Qnw, QnD, QS, goInt, Qnt, QH, ti22, un22, Zq, Q7, QH, t1, t3, c4]; refine hK1 _ ?_; clear hK1
    (try simp only [Qnu, QnC])
    simp -implicitDefEqProofs only [Qb, Qg, OpW, aop, AS.ev, Qc, Qn, Qi, ↓reduceIte, Nat.reduceLT, Nat.reduceEqDiff, Qnx, Qp, QK, QL, QT, Qnl, Qnm, Qnn, Qnq, Qno, QnA, QnE, Qnt, ti22, Zq, Q7, t1]
    repeat (first | (((with_reducible refine FunW.ret (FunW.call ca) ?_)); simp -implicitDefEqProofs only [Qd, Qb, Qg, OpW, QO, aop, AS.ev, Qc, Qi, ↓reduceIte, Nat.reduceLT, Nat.reduceEqDiff, QnP, QnQ]) | (with_reducible refine Ql ?_) | ((with_reducible refine hK _ ?_); clear hK))
    simp only [QI, Qm, Qu, upd, ↓reduceIte, Qnr, Qnv]; first | refine Qf (htake _ _) (.keep (.v _)) ⟨by rw [R], rfl⟩ | refine Qf List.take_length (.keep (.v _)) ⟨by rw [R], rfl⟩
  · by_cases k0 : g.op = 0
    · have c := Qab ⟨0, g.name, g.args⟩
      rw [show G.atom ⟨0, g.name, g.args⟩ = AV.agg [.v (.string g.name), .sl 4 (avs g.args) none] from rfl] at c
      have R : Xn g = Q3 ⟨0, g.name, g.args⟩ := by
        rw [Xn, if_pos k0]
      have z0 : (g.op == 0) = true := by simp [k0]
      repeat (first | ((first | (with_reducible (first | refine Qa fun K E hK hE => ?_ | refine Qo c ?_))); simp -implicitDefEqProofs only [Qd, Qb, Qg, OpW, QO, aop, undef, AS.ev, Qc, Qn, Qi, Qw, AV.QmP, QB, QU, Yf, QJ, QnF, QnG, Qt, QM, QC, QnH, ↓reduceIte, Qny, Qnz, Nat.reduceAdd, Nat.reduceLT, Nat.reduceLeDiff, Nat.reduceEqDiff, Qnx, QnK, QnT, Qp, QK, QL, aBin, X4, Yj, QT, Qnl, Qnm, Qnn, QnA, QnE, QnN, QnM, QnO, Qnw, QnD, Qnu, QnC, QS, ti3, ti9, ti22, Yq, QaO, Zq, zi34, sp34, Q7, z0]) | (with_reducible (first | refine Qq ?_ | refine Ql ?_ | refine Qy ?_ | refine QF ?_)) | ((with_reducible refine hK _ ?_); clear hK) | (refine Qk rfl ?_; simp only [↓reduceIte]))
      simp only [QI, Qm, Qu, upd, ↓reduceIte, Qnr, Qnv]; first | refine Qf (htake _ _) (.keep (.v _)) ⟨by rw [R], rfl⟩ | refine Qf List.take_length (.keep (.v _)) ⟨by rw [R], rfl⟩
    have z0 : (g.op == 0) = false := by simp [k0]
    by_cases k1 : g.op = 1
    · have z1 : (g.op == 1) = true := by simp [k1]
      have gn : ZB g.op = 0 := by simp [ZB, k1]
      repeat (first | ((first | (with_reducible (first | refine Qa fun K E hK hE => ?_ | refine Qs fun K E hK hE => ?_))); simp -implicitDefEqProofs only [Qd, Qb, Qg, OpW, aop, AS.ev, Qc, Qn, Qi, ↓reduceIte, Nat.reduceLT, Nat.reduceEqDiff, QnK, Qp, QK, QL, aBin, QT, Qnl, Qnn, QS, ti3, Yq, Q7, z0, z1]) | (with_reducible (first | refine Qh fun K hK => ?_ | refine Qq ?_ | refine QA ?_ | refine Qj ?_ | refine QD ?_)) | ((with_reducible refine hK _ ?_); clear hK) | (refine Qk rfl ?_; simp only [↓reduceIte, Qnp]))
      exact ⟨k0, rfl, by rw [gn]; rfl, rfl⟩
    have z1 : (g.op == 1) = false := by simp [k1]
    by_cases k2 : g.op = 2
    · have z2 : (g.op == 2) = true := by simp [k2]
      have gn : ZB g.op = 0 := by simp [ZB, k2]
      repeat (first | ((first | (with_reducible (first | refine Qa fun K E hK hE => ?_ | refine Qs fun K E hK hE => ?_))); simp -implicitDefEqProofs only [Qd, Qb, Qg, OpW, aop, AS.ev, Qc, Qn, Qi, ↓reduceIte, Nat.reduceLT, Nat.reduceEqDiff, QnK, Qp, QK, QL, aBin, QT, Qnl, Qnn, QS, ti3, Yq, Q7, z0, z1, z2]) | (with_reducible (first | refine Qh fun K hK => ?_ | refine Qq ?_ | refine Qj ?_ | refine QD ?_)) | ((with_reducible refine hK _ ?_); clear hK) | (refine Qk rfl ?_; simp only [↓reduceIte, Qnp]))
      exact ⟨k0, rfl, by rw [gn]; rfl, rfl⟩
    have z2 : (g.op == 2) = false := by simp [k2]
    by_cases k11 : g.op = 11
    · have z11 : (g.op == 11) = true := by simp [k11]
      have gn : ZB g.op = 1 := by simp [ZB, k11]
      repeat (first | ((first | (with_reducible (first | refine Qa fun K E hK hE => ?_ | refine Qs fun K E hK hE => ?_))); simp -implicitDefEqProofs only [Qd, Qb, Qg, OpW, aop, AS.ev, Qc, Qn, Qi, ↓reduceIte, Nat.reduceLT, Nat.reduceEqDiff, QnK, Qp, QK, QL, aBin, QT, Qnl, Qnn, QS, ti3, Yq, Q7, z0, z1, z2, z11]) | (with_reducible (first | refine Qh fun K hK => ?_ | refine Qq ?_ | refine QA ?_ | refine Qj ?_ | refine QD ?_)) | ((with_reducible refine hK _ ?_); clear hK) | (refine Qk rfl ?_; simp only [↓reduceIte, Qnp]))
      exact ⟨k0, rfl, by rw [gn]; rfl, rfl⟩
    have z11 : (g.op == 11) = false := by simp [k11]
    by_cases k12 : g.op = 12
    · have z12 : (g.op == 12) = true := by simp [k12]
      have gn : ZB g.op = 1 := by simp [ZB, k12]
      repeat (first | ((first | (with_reducible (first | refine Qa fun K E hK hE => ?_ | refine Qs fun K E hK hE => ?_))); simp -implicitDefEqProofs only [Qd, Qb, Qg, OpW, aop, AS.ev, Qc, Qn, Qi, ↓reduceIte, Nat.reduceLT, Nat.reduceEqDiff, QnK, Qp, QK, QL, aBin, QT, Qnl, Qnn, QS, ti3, Yq, Q7, z0, z1, z2, z11, z12]) | (with_reducible (first | refine Qh fun K hK => ?_ | refine Qq ?_ | refine Qj ?_ | refine QD ?_)) | ((with_reducible refine hK _ ?_); clear hK) | (refine Qk rfl ?_; simp only [↓reduceIte, Qnp]))
      exact ⟨k0, rfl, by rw [gn]; rfl, rfl⟩
    have z12 : (g.op == 12) = false := by simp [k12]
    have gn : ZB g.op = 2 := by simp [ZB, k1, k2, k11, k12]
    repeat (first | ((first | (with_reducible (first | refine Qa fun K E hK hE => ?_ | refine Qs fun K E hK hE => ?_))); simp -implicitDefEqProofs only [Qd, Qb, Qg, OpW, aop, AS.ev, Qc, Qn, Qi, ↓reduceIte, Nat.reduceLT, Nat.reduceEqDiff, QnK, Qp, QK, QL, aBin, QT, Qnl, Qnn, QS, ti3, Yq, Q7, z0, z1, z2, z11, z12]) | (with_reducible (first | refine Qh fun K hK => ?_ | refine Qq ?_ | refine QA ?_ | refine Qj ?_ | refine QD ?_)) | ((with_reducible refine hK _ ?_); clear hK) | (refine Qk rfl ?_; simp only [↓reduceIte, Qnp]))
    exact ⟨k0, rfl, by rw [gn]; rfl, rfl⟩
end Go.Proofs.YtehjodmnajgdgaaGreatDoor.Ab
set_option maxRecDepth 4000
namespace Go.Proofs.YtehjodmnajgdgaaGreatDoor.Ab
open Go.Proofs
def txtA (g : G) : ByteArray := if Q3 g = true then funT g.name (txts g.args) else { data := #[] }
def txtG (g : G) : ByteArray := if Xn g = true then Zo g else { data := #[] }
theorem Qd4 {s : ByteArray} {l : List ByteArray} (h0 : 1 ≤ s.size) : 1 ≤ (funT s l).size := by rw [funT, QE]; omega
theorem Qhj (s : ByteArray) (l : List ByteArray) : (funT s l).size ≤ s.size + 2 + (l.map fun x => x.size + 2).sum := by
  rw [funT, QE]
  have e1 := QbV (decide (0 < l.length)) (Yh true l)
  have e2 := QfS l true
  omega
theorem Qf3 {g : G} (h : Q3 g = true) : lexL g.args ∧ g.args.length ≤ 6 ∧ 1 ≤ (funT g.name (txts g.args)).size ∧ (funT g.name (txts g.args)).size ≤ 15000 := by
  simp only [Q3, Bool.and_eq_true, decide_eq_true_eq] at h
  obtain ⟨h1, h2, h3⟩ := h
  have hn := Y8 h1
  have hl := Qcr g.args 200 20 h3
  have hr := QdX g.args 200 20 (by omega) h3
  refine ⟨hl.1, h2, Qd4 hn.1, ?_⟩
  have := Qhj g.name (txts g.args)
  have := hl.2.1
  omega
theorem Qfm {h : AH} (hG : XT h) (b : AB) : XT (HB (h ++ [b] ++ [AB.dead, AB.dead]) (h ++ [b]).length ((h ++ [b]).length + 1) true (.empty)) := Qmv (hG.app [b]) _ _
theorem Qav (g : G) (hl : g.args.length ≤ 1000000) (h : AH) (hG : XT h) : Xd Tryz.prog 16 [g.atom] h fun o h' => o = .ret (.v (.string (txtA g))) ∧ h' = h := by
  have cr := Qab g
  cases hr : Q3 g with
  | false =>
    rw [hr] at cr
    have c1 := Qhq (.fn (.func 46) [] [.ptr h.length 0 0])
    refine Qe Tryz.func16 rfl Tryz.call16 Tryz.ntmps16 (congrArg Array.toList Tryz.results16) (by simp) ?_
    repeat (first | ((first | (with_reducible (first | refine Qa fun K E hK hE => ?_ | refine Qo cr ?_ | refine Qo c1 ?_))); simp -implicitDefEqProofs only [Qd, Qb, Qg, OpW, QO, aop, undef, AS.ev, Qc, QG, Qi, Qw, Qns, AV.QmP, QnF, QnG, Qt, QC, QnH, ↓reduceIte, Qny, Qnz, Nat.reduceAdd, Nat.reduceLT, Nat.reduceEqDiff, Qnx, QnT, QK, QL, QT, Qnl, Qnn, QnA, QnE, ti34, Xm, XP]) | (with_reducible refine Ql ?_) | ((with_reducible refine hK _ ?_); clear hK))
    simp only [QI, Qm, Qu, upd, ↓reduceIte, Qnr, Qnv]; first | refine Qf (htake _ _) (.keep (.v _)) ⟨by rw [txtA, if_neg (by rw [hr]; decide)], rfl⟩ | refine Qf List.take_length (.keep (.v _)) ⟨by rw [txtA, if_neg (by rw [hr]; decide)], rfl⟩
  | true =>
    rw [hr] at cr
    obtain ⟨hx, h6, hs0, hs1⟩ := Qf3 hr
    have hk := QjA (h := h ++ [AB.cells 34 2 [g.atom]] ++ [AB.dead, AB.dead]) (i := (h ++ [AB.cells 34 2 [g.atom]]).length) (j := (h ++ [AB.cells 34 2 [g.atom]]).length + 1) (p := h.length)
      (by simp) (by simp) (by omega) (by simp) (by simp; omega) g (by simp) hx hl (Qfm hG _) false .empty (by rw [show (ByteArray.empty).size = 0 from rfl]; omega)
    rw [Wri, ByteArray.empty_append] at hk
    have c1 := QfY (.fn (.func 46) [] [.ptr h.length 0 0]) (.tup []) (funT g.name (txts g.args)) (h ++ [AB.cells 34 2 [g.atom]]) hs0 (by omega) (FunW.fn hk)
    refine Qe Tryz.func16 rfl Tryz.call16 Tryz.ntmps16 (congrArg Array.toList Tryz.results16) (by simp) ?_
    repeat (first | ((first | (with_reducible (first | refine Qa fun K E hK hE => ?_ | refine Qo cr ?_ | refine FunW.ret (FunW.call c1) ?_))); simp -implicitDefEqProofs only [Qd, Qb, Qg, OpW, QO, aop, undef, AS.ev, Qc, QG, Qi, Qw, Qns, AV.QmP, QnF, QnG, Qt, QC, QnH, ↓reduceIte, Qny, Qnz, Nat.reduceAdd, Nat.reduceLT, Nat.reduceEqDiff, Qnx, QnT, QK, QL, QT, Qnl, Qnn, QnA, QnE, ti34, Xm, XP]) | (with_reducible refine Ql ?_) | ((with_reducible refine hK _ ?_); clear hK))
    simp only [QI, Qm, Qu, upd, ↓reduceIte, Qnr, Qnv]; first | refine Qf (htake _ _) (.keep (.v _)) ⟨by rw [txtA, if_pos hr], rfl⟩ | refine Qf List.take_length (.keep (.v _)) ⟨by rw [txtA, if_pos hr], rfl⟩
theorem Qh5 {g : G} (h : Xn g = true) : lexL g.args ∧ g.args.length ≤ 6 ∧ 1 ≤ (Zo g).size ∧ (Zo g).size ≤ 15000 ∧
    (g.op = 0 ∨ g.op = 1 ∨ g.op = 2 ∨ g.op = 11 ∨ g.op = 12 ∨ (3 ≤ g.op ∧ g.op ≤ 10 ∧ g.args.length = 2)) := by
  rw [Xn] at h
  by_cases k0 : g.op = 0
  · rw [if_pos k0] at h
    obtain ⟨h1, h2, h3, h4⟩ := Qf3 h
    rw [Zo, if_pos k0]
    exact ⟨h1, h2, h3, h4, .inl k0⟩
  rw [if_neg k0] at h
  simp only [Bool.and_eq_true, decide_eq_true_eq] at h
  obtain ⟨h1, hn, h2, h3⟩ := h
  have hl := Qcr g.args 200 20 h3
  have hr := QdX g.args 200 20 (by omega) h3
  have hgn : ZB g.op ≤ 2 := by rw [ZB]; split <;> (try split) <;> decide
  refine ⟨hl.1, by omega, ?_⟩
  rw [Zo, if_neg k0]
  by_cases k1 : g.op = 1
  · rw [if_pos k1]; exact ⟨by decide, by decide, by omega⟩
  rw [if_neg k1]
  by_cases k2 : g.op = 2
  · rw [if_pos k2]; exact ⟨by decide, by decide, by omega⟩
  rw [if_neg k2]
  have hl2 := hl.2.1
  by_cases k11 : g.op = 11
  · rw [if_pos k11]
    refine ⟨Qd4 (by decide), ?_, by omega⟩
    have := Qhj intB (txts g.args)
    have : intB.size = 3 := rfl
    omega
  rw [if_neg k11]
  by_cases k12 : g.op = 12
  · rw [if_pos k12]
    refine ⟨Qd4 (by decide), ?_, by omega⟩
    have := Qhj grdB (txts g.args)
    have : grdB.size = 6 := rfl
    omega
  rw [if_neg k12]
  have hn2 : g.args.length = 2 := by
    have : ZB g.op = 2 := by simp [ZB, k1, k2, k11, k12]
    omega
  have hb := Qfi g.op (by omega) (by omega)
  match hg : g.args, hn2 with
  | [a, c], _ =>
    rw [hg] at hl2 hr
    simp only [txts, pairT, QE, QnA, QnE, List.sum_cons, List.sum_nil] at hl2 ⊢
    have : ({ data := #[32] } : ByteArray).size = 1 := rfl
    refine ⟨by omega, by omega, .inr (.inr (.inr (.inr (.inr ⟨by omega, by omega, rfl⟩))))⟩
theorem QkN {h : AH} {i j p : Nat} (hi : i < h.length) (hj : j < h.length) (hij : i ≠ j) (hpi : i ≠ p) (hpj : j ≠ p) (g : G) (gp : h[p]? = some (.cells 30 3 [g.goal])) (hr : Xn g = true)
    (hG : XT (HB h i j true (.empty))) (u : Bool) (tx : ByteArray) (hs : tx.size + (Zo g).size ≤ 140737488355328) :
    Wri 38 [.ptr i 0 0, .ptr p 0 0] h i j u tx (Zo g) := by
  obtain ⟨hx, hl, _, _, ho⟩ := Qh5 hr
  have hl' : g.args.length ≤ 1000000 := by omega
  rcases ho with ho | ho | ho | ho | ho | ⟨h3, h10, h2⟩
  · have e : Zo g = funT g.name (txts g.args) := by simp [Zo, ho]
    rw [e] at hs ⊢; exact QiF hi hj hij hpi hpj g gp hx hl' ho hG u tx hs
  · have e : Zo g = QjT := by simp [Zo, ho]
    rw [e] at hs ⊢; exact QiQ hi hj hij hpi hpj g gp hx hl' ho hG u tx hs
  · have e : Zo g = Qjy := by simp [Zo, ho]
    rw [e] at hs ⊢; exact QiJ hi hj hij hpi hpj g gp hx hl' ho hG u tx hs
  · have e : Zo g = funT intB (txts g.args) := by simp [Zo, ho]
    rw [e] at hs ⊢; exact Qju hi hj hij hpi hpj g gp hx hl' ho hG u tx hs
  · have e : Zo g = funT grdB (txts g.args) := by simp [Zo, ho]
    rw [e] at hs ⊢; exact Qgy hi hj hij hpi hpj g gp hx hl' ho hG u tx hs
  · have e : Zo g = pairT g.op (txts g.args) := by
      rw [Zo, if_neg (by omega), if_neg (by omega), if_neg (by omega), if_neg (by omega), if_neg (by omega)]
    rw [e] at hs ⊢
    obtain ⟨op, n, l⟩ := g
    match l, h2 with
    | [a, c], _ => exact Qiu hi hj hij hpi hpj op n a c gp hx h3 h10 hG u tx hs
theorem Qck (g : G) (hl : g.args.length ≤ 1000000) (h : AH) (hG : XT h) : Xd Tryz.prog 14 [g.goal] h fun o h' => o = .ret (.v (.string (txtG g))) ∧ h' = h := by
  have cr := Qe5 g
  cases hr : Xn g with
  | false =>
    rw [hr] at cr
    have c1 := Qhq (.fn (.func 38) [] [.ptr h.length 0 0])
    refine Qe Tryz.func14 rfl Tryz.call14 Tryz.ntmps14 (congrArg Array.toList Tryz.results14) (by simp) ?_
    repeat (first | ((first | (with_reducible (first | refine Qa fun K E hK hE => ?_ | refine Qo cr ?_ | refine Qo c1 ?_))); simp -implicitDefEqProofs only [Qd, Qb, Qg, OpW, QO, aop, undef, AS.ev, Qc, QG, Qi, Qw, Qns, AV.QmP, QnF, QnG, Qv, Qt, QC, QnH, ↓reduceIte, Qny, Qnz, Nat.reduceAdd, Nat.reduceLT, Nat.reduceEqDiff, Qnx, QnT, QK, QL, QT, Qnl, Qnn, QnA, QnE, ti30, Q7, Yo]) | (with_reducible refine Ql ?_) | ((with_reducible refine hK _ ?_); clear hK))
    simp only [QI, Qm, Qu, upd, ↓reduceIte, Qnr, Qnv]; first | refine Qf (htake _ _) (.keep (.v _)) ⟨by rw [txtG, if_neg (by rw [hr]; decide)], rfl⟩ | refine Qf List.take_length (.keep (.v _)) ⟨by rw [txtG, if_neg (by rw [hr]; decide)], rfl⟩
  | true =>
    rw [hr] at cr
    obtain ⟨hx, h6, hs0, hs1, _⟩ := Qh5 hr
    have hk := QkN (h := h ++ [AB.cells 30 3 [g.goal]] ++ [AB.dead, AB.dead]) (i := (h ++ [AB.cells 30 3 [g.goal]]).length) (j := (h ++ [AB.cells 30 3 [g.goal]]).length + 1) (p := h.length)
      (by simp) (by simp) (by omega) (by simp) (by simp; omega) g (by simp) hr (Qfm hG _) false .empty (by rw [show (ByteArray.empty).size = 0 from rfl]; omega)
    rw [Wri, ByteArray.empty_append] at hk
    have c1 := QfY (.fn (.func 38) [] [.ptr h.length 0 0]) (.tup []) (Zo g) (h ++ [AB.cells 30 3 [g.goal]]) hs0 (by omega) (FunW.fn hk)
    refine Qe Tryz.func14 rfl Tryz.call14 Tryz.ntmps14 (congrArg Array.toList Tryz.results14) (by simp) ?_
    repeat (first | ((first | (with_reducible (first | refine Qa fun K E hK hE => ?_ | refine Qo cr ?_ | refine FunW.ret (FunW.call c1) ?_))); simp -implicitDefEqProofs only [Qd, Qb, Qg, OpW, QO, aop, undef, AS.ev, Qc, QG, Qi, Qw, Qns, AV.QmP, QnF, QnG, Qv, Qt, QC, QnH, ↓reduceIte, Qny, Qnz, Nat.reduceAdd, Nat.reduceLT, Nat.reduceEqDiff, Qnx, QnT, QK, QL, QT, Qnl, Qnn, QnA, QnE, ti30, Q7, Yo]) | (with_reducible refine Ql ?_) | ((with_reducible refine hK _ ?_); clear hK))
    simp only [QI, Qm, Qu, upd, ↓reduceIte, Qnr, Qnv]; first | refine Qf (htake _ _) (.keep (.v _)) ⟨by rw [txtG, if_pos hr], rfl⟩ | refine Qf List.take_length (.keep (.v _)) ⟨by rw [txtG, if_pos hr], rfl⟩
end Go.Proofs.YtehjodmnajgdgaaGreatDoor.Ab
set_option maxRecDepth 4000
namespace Go.Proofs.YtehjodmnajgdgaaGreatDoor.Ab
open Go.Proofs
def i64 (n : Int) : Prop := -9223372036854775808 ≤ n ∧ n ≤ 9223372036854775807
mutual
def T.ok : T → Prop
  | .mk k i n l => i64 k ∧ i64 i ∧ n.size ≤ 9223372036854775807 ∧ oks l
def oks : List T → Prop
  | [] => True
  | t :: l => t.ok ∧ oks l
end
theorem T.ok_eq (t : T) : t.ok ↔ i64 t.kind ∧ i64 t.int ∧ t.name.size ≤ 9223372036854775807 ∧ oks t.args := by cases t; simp only [T.ok, T.kind, T.int, T.name, T.args]
theorem Qey : ∀ {l : List T} {k : Nat} (h : k < l.length), oks l → (l[k]).ok
  | t :: l, 0, _, h => h.1
  | t :: l, k + 1, h, ho => Qey (l := l) (by simpa using h) ho.2
theorem T.Qnd (t : T) : t.av = .agg [.i t.kind, .i t.int, .v (.string t.name), .sl 4 (avs t.args) none] := by cases t; simp only [T.av, T.kind, T.int, T.name, T.args]
theorem Qhu (P : Program) (t : TypeId) (xo yo : Operand) (a : Int) : pv P (do eqGuard .quo t xo yo (.int .i64 a) (.int .i64 8); binOp .quo t (.int .i64 a) (.int .i64 8)) = some (.int .i64 (IntKind.i64.wrap (a.tdiv 8))) := rfl
def weighs (w : List T → Int → Int) : List T → Int → Int
  | [], n => n
  | t :: l, n => if n < 0 then n else weighs w l (w t.args (n - 1 - (t.name.size / 8 : Nat)))
def weigh : Nat → List T → Int → Int
  | 0, _, _ => -1
  | d + 1, l, n => if (l.length : Int) > n then -1 else weighs (weigh d) l n
theorem Qdd (w : List T → Int → Int) (hw : ∀ l n, -1 ≤ w l n ∧ (w l n ≤ n ∨ w l n = -1)) : ∀ (l : List T) (n : Int), -1 ≤ n → -1 ≤ weighs w l n ∧ weighs w l n ≤ n
  | [], n, h => ⟨h, Int.le_refl _⟩
  | t :: l, n, h => by
    simp only [weighs]
    split
    · exact ⟨h, Int.le_refl _⟩
    · obtain ⟨h1, h2⟩ := hw t.args (n - 1 - (t.name.size / 8 : Nat))
      obtain ⟨h3, h4⟩ := Qdd w hw l _ h1
      refine ⟨h3, ?_⟩
      omega
theorem ZQ : ∀ (d : Nat) (l : List T) (n : Int), -1 ≤ weigh d l n ∧ (weigh d l n ≤ n ∨ weigh d l n = -1)
  | 0, l, n => ⟨Int.le_refl _, .inr rfl⟩
  | d + 1, l, n => by
    simp only [weigh]
    split
    · exact ⟨Int.le_refl _, .inr rfl⟩
    · obtain ⟨h1, h2⟩ := Qdd (weigh d) (ZQ d) l n (by omega)
      exact ⟨h1, .inl h2⟩
theorem Qe9 (w : List T → Int → Int) (hb : ∀ l n, -1 ≤ w l n) (hw : ∀ l n, 0 ≤ w l n → (ndsL l : Int) + w l n ≤ n) : ∀ (l : List T) (n : Int), 0 ≤ weighs w l n → (ndsL l : Int) + weighs w l n ≤ n
  | [], n, h => by simp [weighs, ndsL]
  | t :: l, n, h => by
    simp only [weighs] at h ⊢
    split at h
    · omega
    · rename_i hn
      rw [if_neg hn]
      have h1 := Qe9 w hb hw l _ h
      have h2 := hw t.args (n - 1 - (t.name.size / 8 : Nat)) (by
        rcases Int.lt_or_le (w t.args (n - 1 - (t.name.size / 8 : Nat))) 0 with h0 | h0
        · exfalso
          have : weighs w l (w t.args (n - 1 - (t.name.size / 8 : Nat))) = w t.args (n - 1 - (t.name.size / 8 : Nat)) := by
            cases l with
            | nil => rfl
            | cons a l => simp only [weighs, if_pos h0]
          omega
        · exact h0)
      have h3 := T.QmZ t
      simp only [ndsL]
      omega
theorem Qet : ∀ (d : Nat) (l : List T) (n : Int), 0 ≤ weigh d l n → (ndsL l : Int) + weigh d l n ≤ n
  | 0, l, n, h => by simp only [weigh] at h; omega
  | d + 1, l, n, h => by
    simp only [weigh] at h ⊢
    split at h
    · omega
    · rename_i hn
      rw [if_neg hn]
      exact Qe9 (weigh d) (fun l n => (ZQ d l n).1) (Qet d) l n h
theorem Qhf (w : List T → Int → Int) {r : List T} {n : Int} (h : n < 0) : weighs w r n = n := by
  cases r with
  | nil => rfl
  | cons a r => simp only [weighs, if_pos h]
theorem Qbl : ∀ (d : Nat), d ≤ 64 → ∀ (l : List T) (n : Int), oks l → -2305843009213693952 ≤ n → n ≤ 1000000 → Pure Tryz.prog 29 [.sl 4 (avs l) none, .i n, .i d] (.i (weigh d l n))
  | 0, _, l, n, ho, hn1, hn2 => by
    intro h
    refine Qe Tryz.func29 rfl Tryz.call29 Tryz.ntmps29 (congrArg Array.toList Tryz.results29) (by simp) ?_
    repeat (first | (((with_reducible refine Qa fun K E hK hE => ?_)); simp -implicitDefEqProofs only [Qd, Qb, Qg, OpW, aop, undef, AS.ev, Qc, Qn, Qr, Qi, Qw, Qns, QnL, QnI, ↓reduceIte, Nat.reduceLT, Nat.reduceEqDiff, aBin, Qnl, Qnm, Qnn, Qnq, Qno, QS, Qnt, Qn7, beq_false]) | (with_reducible (first | refine Qh fun K hK => ?_ | refine Ql ?_ | refine Qy ?_)) | ((with_reducible refine hK _ ?_); clear hK) | (refine Qk rfl ?_; simp only [↓reduceIte]))
    simp only [QI, Qm, Qu, upd, ↓reduceIte, Qnr, Qnv]; first | refine Qf (htake _ _) (.keep (.v _)) ⟨rfl, rfl⟩ | refine Qf List.take_length (.keep (.v _)) ⟨rfl, rfl⟩
  | d + 1, hd, l, n, ho, hn1, hn2 => by
    intro h
    have hd0 : (((d + 1 : Nat) : Int) == 0) = false := by rw [beq_eq_false_iff_ne]; omega
    have hwd : IntKind.i64.wrap (((d + 1 : Nat) : Int) - 1) = (d : Int) := by rw [XW (by omega)]; omega
    by_cases hc : (l.length : Int) > n
    · refine Qe Tryz.func29 rfl Tryz.call29 Tryz.ntmps29 (congrArg Array.toList Tryz.results29) (by simp) ?_
      repeat (first | (((with_reducible refine Qa fun K E hK hE => ?_)); simp -implicitDefEqProofs only [Qd, Qb, Qg, OpW, aop, undef, AS.ev, Qc, Qn, Qi, Qw, Qns, QnL, ↓reduceIte, Nat.reduceLT, Nat.reduceEqDiff, aBin, aLen, Qnl, Qnm, Qnn, Qnq, Qno, QS, Xg, goInt, QnR, Qnt, Qnp, QH, un22, hd0, hc]) | (with_reducible (first | refine Qh fun K hK => ?_ | refine Ql ?_ | refine Qy ?_)) | ((with_reducible refine hK _ ?_); clear hK) | (refine Qk rfl ?_; simp only [↓reduceIte]))
      simp only [QI, Qm, Qu, upd, ↓reduceIte, Qnr, Qnv]; first | refine Qf (htake _ _) (.keep (.v _)) ⟨by simp only [weigh, if_pos hc], rfl⟩ | refine Qf List.take_length (.keep (.v _)) ⟨by simp only [weigh, if_pos hc], rfl⟩
    · have hw : weigh (d + 1) l n = weighs (weigh d) l n := by simp only [weigh, if_neg hc]
      refine Qe Tryz.func29 rfl Tryz.call29 Tryz.ntmps29 (congrArg Array.toList Tryz.results29) (by simp) ?_
      repeat (first | (((with_reducible refine Qa fun K E hK hE => ?_)); simp -implicitDefEqProofs only [Qd, Qb, Qg, OpW, aop, undef, AS.ev, Qc, Qn, Qi, Qw, Qns, QnL, ↓reduceIte, Nat.reduceLT, Nat.reduceEqDiff, aBin, aLen, Qnl, Qnm, Qnn, Qnq, Qno, QS, Xg, goInt, QnS, Qnt, Qnp, QH, un22, hd0, hc]) | (with_reducible (first | refine Qh fun K hK => ?_ | refine Qq ?_ | refine QA ?_ | refine Qj ?_)) | ((with_reducible refine hK _ ?_); clear hK) | (refine Qk rfl ?_; simp only [↓reduceIte, Qnp]))
      obtain ⟨I, hI⟩ : ∃ I : Nat → AS → Prop, I = fun m' s => ∃ (j : Nat) (a : Int), m' = l.length - j ∧ j ≤ l.length ∧ -1 ≤ a ∧ a ≤ n ∧ weighs (weigh d) l n = weighs (weigh d) (l.drop j) a ∧ s.tm 0 = .sl 4 (avs l) none ∧ s.tm 1 = .i a ∧ s.tm 2 = .i ((d + 1 : Nat) : Int) ∧ s.tm 7 = .i j ∧ s.h = h := ⟨_, rfl⟩; refine XM I ?_ (m := l.length) ?_
      · intro m' s hs; rw [hI] at hs; obtain ⟨tm, hp⟩ := s; dsimp only at hs; obtain ⟨j, a, rfl, hj, ha1, ha2, he, t0, t1, t2, t7, rfl⟩ := hs
        by_cases hlt : j < l.length
        · rw [List.drop_eq_getElem_cons hlt] at he
          by_cases ha : a ≥ 0
          · obtain ⟨o1, o2, o3, o4⟩ := (T.ok_eq _).1 (Qey hlt ho)
            simp only [weighs, if_neg (show ¬ a < 0 by omega)] at he
            have hq : ((l[j].name.size : Int)).tdiv 8 = ((l[j].name.size / 8 : Nat) : Int) := by
              rw [Int.tdiv_eq_ediv_of_nonneg (by omega)]; omega
            have hw1 : IntKind.i64.wrap (a - 1) = a - 1 := XW (by omega)
            have hw2 : IntKind.i64.wrap (((l[j].name.size / 8 : Nat) : Int)) = ((l[j].name.size / 8 : Nat) : Int) := XW (by omega)
            have hw3 : IntKind.i64.wrap (a - 1 - ((l[j].name.size / 8 : Nat) : Int)) = a - 1 - ((l[j].name.size / 8 : Nat) : Int) := XW (by omega)
            have hr := Qbl d (by omega) l[j].args (a - 1 - ((l[j].name.size / 8 : Nat) : Int)) o4 (by omega) (by omega)
            have hrb := ZQ d l[j].args (a - 1 - ((l[j].name.size / 8 : Nat) : Int))
            have hsl := fun s => YB Tryz.prog 9 3 (by kernel_rfl) s
            repeat (first | ((first | (with_reducible (first | refine Qa fun K E hK hE => ?_ | refine Qs fun K E hK hE => ?_ | refine QQ hr ?_)) | (refine XE (id := 6) [(0, 0), (1, 0), (2, 0), (3, 0), (4, 0), (5, 0), (6, 0), (7, 0), (8, 0), (9, 0), (10, 0), (11, 0), (12, 0), (13, 0), (14, 0), (15, 0), (16, 0), (17, 1), (18, 0)] mixed (by kernel_rfl) fun K hK => ?_)); simp -implicitDefEqProofs only [Q4, Q1, Xb, Qd, Qb, Qg, OpW, aop, AS.ev, Qc, Qn, Qi, ↓reduceIte, Nat.reduceLT, Nat.reduceLeDiff, Nat.reduceEqDiff, Qnx, QnT, Qp, QK, QL, QZ, aBin, aLen, Qnl, Qnm, Qnn, Qnq, Qno, QnA, QnE, Q0, XD, X8, XY, goInt, QnR, Qnt, QnY, QnX, Qn9, T.QmN, QH, ti9, ti22, ei22, un22, Xx, Xy, t0, t1, t2, t7, hlt, ha, Y3 hlt, hsl, Qhu, hq, hw1, hw2, hw3, hwd]) | (with_reducible (first | refine Qh fun K hK => ?_ | refine Qq ?_ | refine QA ?_ | refine Qj ?_ | refine QD ?_)) | ((with_reducible refine hK _ ?_); clear hK) | (refine Qk rfl ?_; simp only [↓reduceIte]))
            refine Yr.mk (m' := l.length - (j + 1)) (by omega) ?_
            rw [hI]
            refine ⟨j + 1, _, rfl, hlt, ?_, ?_, he, t0, rfl, t2, ?_, rfl⟩
            · exact hrb.1
            · omega
            · simp only [upd, ↓reduceIte]
              rw [Yd (by omega)]
          · have he2 : weigh (d + 1) l n = a := by rw [hw, he, Qhf _ (by omega)]
            repeat (first | (((with_reducible refine Qa fun K E hK hE => ?_)); simp -implicitDefEqProofs only [Qd, Qb, Qg, OpW, aop, AS.ev, Qc, Qn, Qi, ↓reduceIte, Nat.reduceLT, Nat.reduceEqDiff, aBin, aLen, Qnl, Qnm, Qnn, Qnq, Qno, Q0, XD, goInt, QnR, QnS, Qnt, Qn9, QH, un22, t0, t1, t7, hlt, ha]) | (with_reducible (first | refine Qh fun K hK => ?_ | refine Ql ?_ | refine Xj ?_ | refine Qj ?_ | refine Q9 ?_ | refine Q8 ?_)) | ((with_reducible refine hK _ ?_); clear hK) | (clear hK; (with_reducible refine hK _ ?_); clear hK) | (refine Qk rfl ?_; simp only [↓reduceIte, Qnp]))
            simp only [QI, Qm, Qu, upd, ↓reduceIte, Qnr, Qnv]
            exact Qf List.take_length (.keep (.v _)) ⟨by rw [he2], rfl⟩
        · have hjl : j = l.length := by omega
          have he2 : weigh (d + 1) l n = a := by rw [hw, he, hjl, List.drop_length]; rfl
          repeat (first | (((with_reducible refine Qa fun K E hK hE => ?_)); simp -implicitDefEqProofs only [Qd, Qb, Qg, OpW, aop, undef, AS.ev, Qc, Qr, Qi, ↓reduceIte, Nat.reduceLT, Nat.reduceEqDiff, aBin, aLen, Qnl, Qnm, Qnn, Qnq, Qno, Q0, goInt, QnS, Qn9, Qnp, beq_true, QH, un22, t0, t1, t7, hlt]) | (with_reducible (first | refine Qh fun K hK => ?_ | refine Ql ?_ | refine Xj ?_ | refine Qj ?_ | refine Q9 ?_ | refine Q8 ?_)) | ((with_reducible refine hK _ ?_); clear hK) | (clear hK; (with_reducible refine hK _ ?_); clear hK) | (refine Qk rfl ?_; simp only [↓reduceIte, Qnp]))
          simp only [QI, Qm, Qu, upd, ↓reduceIte, Qnr, Qnv]
          exact Qf List.take_length (.keep (.v _)) ⟨by rw [he2], rfl⟩
      · rw [hI]
        exact ⟨0, n, by omega, Nat.zero_le _, by omega, Int.le_refl _, by rw [List.drop_zero], rfl, rfl, rfl, rfl, rfl⟩
theorem Qat {l : List T} {most : Int} (h : ¬ weigh 64 l most < 0) : (ndsL l : Int) ≤ most := by
  have := Qet 64 l most (by omega)
  omega
def G.ok (g : G) : Prop := i64 g.op ∧ g.name.size ≤ 9223372036854775807 ∧ oks g.args
def YT : List G → Int → Int
  | [], n => n
  | g :: l, n => if n < 0 then n else YT l (weigh 64 g.args (n - 1 - (g.name.size / 8 : Nat)))
def ndsG : List G → Nat
  | [] => 0
  | g :: l => ndsL g.args + ndsG l
theorem QeN : ∀ (l : List G) (n : Int), 0 ≤ YT l n → (ndsG l : Int) ≤ n
  | [], n, h => by simpa [YT, ndsG] using h
  | g :: l, n, h => by
    simp only [YT] at h
    split at h
    · omega
    · have h1 := QeN l _ h
      have h2 := Qet 64 g.args (n - 1 - (g.name.size / 8 : Nat)) (by omega)
      simp only [ndsG]
      omega
theorem Qeg {l : List G} {n : Int} (h : n < 0) : YT l n = n := by
  cases l with
  | nil => rfl
  | cons g l => simp only [YT, if_pos h]
theorem Qex (l : List G) (n : Int) (ho : ∀ g ∈ l, g.ok) (hb : l.length ≤ 9223372036854775807) (hn1 : -1 ≤ n) (hn2 : n ≤ 1000000) : Pure Tryz.prog 26 [.sl 2 (vs G.atom l) none, .i n] (.b (decide (YT l n < 0))) := by
  intro h
  refine Qe Tryz.func26 rfl Tryz.call26 Tryz.ntmps26 (congrArg Array.toList Tryz.results26) (by simp) ?_
  repeat (first | (((with_reducible refine Qa fun K E hK hE => ?_)); simp -implicitDefEqProofs only [Qd, Qb, Qg, OpW, aop, AS.ev, Qc, Qn, Qr, Nat.reduceLT]) | (with_reducible (first | refine Qh fun K hK => ?_ | refine Qq ?_)) | ((with_reducible refine hK _ ?_); clear hK))
  obtain ⟨I, hI⟩ : ∃ I : Nat → AS → Prop, I = fun m' s => ∃ (j : Nat) (a : Int), m' = l.length - j ∧ j ≤ l.length ∧ -1 ≤ a ∧ a ≤ n ∧ YT l n = YT (l.drop j) a ∧ s.tm 0 = .sl 2 (vs G.atom l) none ∧ s.tm 1 = .i a ∧ s.tm 5 = .i j ∧ s.h = h := ⟨_, rfl⟩; refine XM I ?_ (m := l.length) ?_
  · intro m' s hs; rw [hI] at hs; obtain ⟨tm, hp⟩ := s; dsimp only at hs; obtain ⟨j, a, rfl, hj, ha1, ha2, he, t0, t1, t5, rfl⟩ := hs
    by_cases hlt : j < l.length
    · rw [List.drop_eq_getElem_cons hlt] at he
      by_cases ha : a ≥ 0
      · obtain ⟨_, o3, o4⟩ := ho _ (List.getElem_mem hlt)
        simp only [YT, if_neg (show ¬ a < 0 by omega)] at he
        have hq : ((l[j].name.size : Int)).tdiv 8 = ((l[j].name.size / 8 : Nat) : Int) := by
          rw [Int.tdiv_eq_ediv_of_nonneg (by omega)]; omega
        have hw1 : IntKind.i64.wrap (a - 1) = a - 1 := XW (by omega)
        have hw2 : IntKind.i64.wrap (((l[j].name.size / 8 : Nat) : Int)) = ((l[j].name.size / 8 : Nat) : Int) := XW (by omega)
        have hw3 : IntKind.i64.wrap (a - 1 - ((l[j].name.size / 8 : Nat) : Int)) = a - 1 - ((l[j].name.size / 8 : Nat) : Int) := XW (by omega)
        have hr := Qbl 64 (by omega) l[j].args (a - 1 - ((l[j].name.size / 8 : Nat) : Int)) o4 (by omega) (by omega)
        have hrb := ZQ 64 l[j].args (a - 1 - ((l[j].name.size / 8 : Nat) : Int))
        have hsl := fun s => YB Tryz.prog 9 3 (by kernel_rfl) s
        have h64 : ((64 : Nat) : Int) = 64 := rfl
        rw [h64] at hr
        repeat (first | ((first | (with_reducible (first | refine Qa fun K E hK hE => ?_ | refine Qs fun K E hK hE => ?_ | refine QQ hr ?_)) | (refine XE (id := 4) [(0, 0), (1, 0), (2, 0), (3, 0), (4, 0), (5, 0), (6, 0), (7, 0), (8, 0), (9, 0), (10, 0), (11, 0), (12, 0), (13, 0), (14, 0), (15, 1), (16, 0)] mixed (by kernel_rfl) fun K hK => ?_)); simp -implicitDefEqProofs only [Q4, Q1, Xb, Qd, Qb, Qg, OpW, aop, AS.ev, Qc, Qn, Qi, QB, ↓reduceIte, Nat.reduceLT, Nat.reduceLeDiff, Nat.reduceEqDiff, Qnx, QnK, QnT, Qp, QK, QL, QZ, aBin, aLen, Qnl, Qnm, Qnn, Qnq, Qno, QnA, QnE, Q0, XD, X8, XY, goInt, QnR, Qnt, QnY, QnX, Qn9, ti9, ti22, QbF, Qc1, ei48, un48, t0, t1, t5, hlt, ha, Qan, QlM G.atom hlt, G.atom, hsl, Qhu, hq, hw1, hw2, hw3]) | (with_reducible (first | refine Qh fun K hK => ?_ | refine Qq ?_ | refine QA ?_ | refine Qj ?_ | refine QD ?_)) | ((with_reducible refine hK _ ?_); clear hK) | (refine Qk rfl ?_; simp only [↓reduceIte]))
        refine Yr.mk (m' := l.length - (j + 1)) (by omega) ?_
        rw [hI]
        refine ⟨j + 1, _, rfl, hlt, ?_, ?_, he, t0, rfl, ?_, rfl⟩
        · exact hrb.1
        · omega
        · simp only [upd, ↓reduceIte]
          rw [Yd (by omega)]
      · have he2 : YT l n = a := by rw [he, Qeg (by omega)]
        repeat (first | (((with_reducible refine Qa fun K E hK hE => ?_)); simp -implicitDefEqProofs only [Qd, Qb, Qg, OpW, aop, AS.ev, Qc, Qn, Qi, ↓reduceIte, Nat.reduceLT, Nat.reduceEqDiff, aBin, aLen, Qnl, Qnm, Qnn, Qnq, Qno, Q0, XD, goInt, QnR, QnS, Qnt, Qn9, un48, t0, t1, t5, hlt, ha, Qan]) | (with_reducible (first | refine Qh fun K hK => ?_ | refine Ql ?_ | refine Xj ?_ | refine Qj ?_ | refine Q9 ?_ | refine Q8 ?_)) | ((with_reducible refine hK _ ?_); clear hK) | (clear hK; (with_reducible refine hK _ ?_); clear hK) | (refine Qk rfl ?_; simp only [↓reduceIte, Qnp]))
        simp only [QI, Qm, Qu, upd, ↓reduceIte, Qnr, Qnv]
        exact Qf List.take_length (.keep (.v _)) ⟨by rw [he2], rfl⟩
    · have hjl : l.drop j = [] := List.drop_eq_nil_of_le (by omega)
      have he2 : YT l n = a := by rw [he, hjl]; rfl
      repeat (first | (((with_reducible refine Qa fun K E hK hE => ?_)); simp -implicitDefEqProofs only [Qd, Qb, Qg, OpW, aop, undef, AS.ev, Qc, Qn, Qr, Qi, ↓reduceIte, Nat.reduceLT, Nat.reduceEqDiff, aBin, aLen, Qnl, Qnm, Qnn, Qnq, Qno, Q0, goInt, QnS, Qn9, Qnp, beq_true, un48, t0, t1, t5, hlt, Qan]) | (with_reducible (first | refine Qh fun K hK => ?_ | refine Ql ?_ | refine Xj ?_ | refine Qj ?_ | refine Q9 ?_ | refine Q8 ?_)) | ((with_reducible refine hK _ ?_); clear hK) | (clear hK; (with_reducible refine hK _ ?_); clear hK) | (refine Qk rfl ?_; simp only [↓reduceIte, Qnp]))
      simp only [QI, Qm, Qu, upd, ↓reduceIte, Qnr, Qnv]
      exact Qf List.take_length (.keep (.v _)) ⟨by rw [he2], rfl⟩
  · rw [hI]
    exact ⟨0, n, by omega, Nat.zero_le _, hn1, Int.le_refl _, by rw [List.drop_zero], rfl, rfl, rfl, rfl⟩
theorem QeR (l : List G) (n : Int) (ho : ∀ g ∈ l, g.ok) (hb : l.length ≤ 9223372036854775807) (hn1 : -1 ≤ n) (hn2 : n ≤ 1000000) : Pure Tryz.prog 13 [.sl 3 (vs G.goal l) none, .i n] (.b (decide (YT l n < 0))) := by
  intro h
  refine Qe Tryz.func13 rfl Tryz.call13 Tryz.ntmps13 (congrArg Array.toList Tryz.results13) (by simp) ?_
  repeat (first | (((with_reducible refine Qa fun K E hK hE => ?_)); simp -implicitDefEqProofs only [Qd, Qb, Qg, OpW, aop, AS.ev, Qc, Qn, Qr, Nat.reduceLT]) | (with_reducible (first | refine Qh fun K hK => ?_ | refine Qq ?_)) | ((with_reducible refine hK _ ?_); clear hK))
  obtain ⟨I, hI⟩ : ∃ I : Nat → AS → Prop, I = fun m' s => ∃ (j : Nat) (a : Int), m' = l.length - j ∧ j ≤ l.length ∧ -1 ≤ a ∧ a ≤ n ∧ YT l n = YT (l.drop j) a ∧ s.tm 0 = .sl 3 (vs G.goal l) none ∧ s.tm 1 = .i a ∧ s.tm 5 = .i j ∧ s.h = h := ⟨_, rfl⟩; refine XM I ?_ (m := l.length) ?_
  · intro m' s hs; rw [hI] at hs; obtain ⟨tm, hp⟩ := s; dsimp only at hs; obtain ⟨j, a, rfl, hj, ha1, ha2, he, t0, t1, t5, rfl⟩ := hs
    by_cases hlt : j < l.length
    · rw [List.drop_eq_getElem_cons hlt] at he
      by_cases ha : a ≥ 0
      · obtain ⟨_, o3, o4⟩ := ho _ (List.getElem_mem hlt)
        simp only [YT, if_neg (show ¬ a < 0 by omega)] at he
        have hq : ((l[j].name.size : Int)).tdiv 8 = ((l[j].name.size / 8 : Nat) : Int) := by
          rw [Int.tdiv_eq_ediv_of_nonneg (by omega)]; omega
        have hw1 : IntKind.i64.wrap (a - 1) = a - 1 := XW (by omega)
        have hw2 : IntKind.i64.wrap (((l[j].name.size / 8 : Nat) : Int)) = ((l[j].name.size / 8 : Nat) : Int) := XW (by omega)
        have hw3 : IntKind.i64.wrap (a - 1 - ((l[j].name.size / 8 : Nat) : Int)) = a - 1 - ((l[j].name.size / 8 : Nat) : Int) := XW (by omega)
        have hr := Qbl 64 (by omega) l[j].args (a - 1 - ((l[j].name.size / 8 : Nat) : Int)) o4 (by omega) (by omega)
        have hrb := ZQ 64 l[j].args (a - 1 - ((l[j].name.size / 8 : Nat) : Int))
        have hsl := fun s => YB Tryz.prog 9 3 (by kernel_rfl) s
        have h64 : ((64 : Nat) : Int) = 64 := rfl
        rw [h64] at hr
        repeat (first | ((first | (with_reducible (first | refine Qa fun K E hK hE => ?_ | refine Qs fun K E hK hE => ?_ | refine QQ hr ?_)) | (refine XE (id := 4) [(0, 0), (1, 0), (2, 0), (3, 0), (4, 0), (5, 0), (6, 0), (7, 0), (8, 0), (9, 0), (10, 0), (11, 0), (12, 0), (13, 0), (14, 0), (15, 1), (16, 0)] mixed (by kernel_rfl) fun K hK => ?_)); simp -implicitDefEqProofs only [Q4, Q1, Xb, Qd, Qb, Qg, OpW, aop, AS.ev, Qc, Qn, Qi, QB, ↓reduceIte, Nat.reduceLT, Nat.reduceLeDiff, Nat.reduceEqDiff, Qnx, QnT, Qp, QK, QL, QZ, aBin, aLen, Qnl, Qnm, Qnn, Qnq, Qno, QnA, QnE, Q0, XD, X8, XY, goInt, QnR, Qnt, QnY, QnX, Qn9, ti9, ti22, QaO, Zq, ei32, un32, t0, t1, t5, hlt, ha, Qan, QlM G.goal hlt, G.goal, hsl, Qhu, hq, hw1, hw2, hw3]) | (with_reducible (first | refine Qh fun K hK => ?_ | refine Qq ?_ | refine QA ?_ | refine Qj ?_ | refine QD ?_)) | ((with_reducible refine hK _ ?_); clear hK) | (refine Qk rfl ?_; simp only [↓reduceIte]))
        refine Yr.mk (m' := l.length - (j + 1)) (by omega) ?_
        rw [hI]
        refine ⟨j + 1, _, rfl, hlt, ?_, ?_, he, t0, rfl, ?_, rfl⟩
        · exact hrb.1
        · omega
        · simp only [upd, ↓reduceIte]
          rw [Yd (by omega)]
      · have he2 : YT l n = a := by rw [he, Qeg (by omega)]
        repeat (first | (((with_reducible refine Qa fun K E hK hE => ?_)); simp -implicitDefEqProofs only [Qd, Qb, Qg, OpW, aop, AS.ev, Qc, Qn, Qi, ↓reduceIte, Nat.reduceLT, Nat.reduceEqDiff, aBin, aLen, Qnl, Qnm, Qnn, Qnq, Qno, Q0, XD, goInt, QnR, QnS, Qnt, Qn9, un32, t0, t1, t5, hlt, ha, Qan]) | (with_reducible (first | refine Qh fun K hK => ?_ | refine Ql ?_ | refine Xj ?_ | refine Qj ?_ | refine Q9 ?_ | refine Q8 ?_)) | ((with_reducible refine hK _ ?_); clear hK) | (clear hK; (with_reducible refine hK _ ?_); clear hK) | (refine Qk rfl ?_; simp only [↓reduceIte, Qnp]))
        simp only [QI, Qm, Qu, upd, ↓reduceIte, Qnr, Qnv]
        exact Qf List.take_length (.keep (.v _)) ⟨by rw [he2], rfl⟩
    · have hjl : l.drop j = [] := List.drop_eq_nil_of_le (by omega)
      have he2 : YT l n = a := by rw [he, hjl]; rfl
      repeat (first | (((with_reducible refine Qa fun K E hK hE => ?_)); simp -implicitDefEqProofs only [Qd, Qb, Qg, OpW, aop, undef, AS.ev, Qc, Qn, Qr, Qi, ↓reduceIte, Nat.reduceLT, Nat.reduceEqDiff, aBin, aLen, Qnl, Qnm, Qnn, Qnq, Qno, Q0, goInt, QnS, Qn9, Qnp, beq_true, un32, t0, t1, t5, hlt, Qan]) | (with_reducible (first | refine Qh fun K hK => ?_ | refine Ql ?_ | refine Xj ?_ | refine Qj ?_ | refine Q9 ?_ | refine Q8 ?_)) | ((with_reducible refine hK _ ?_); clear hK) | (clear hK; (with_reducible refine hK _ ?_); clear hK) | (refine Qk rfl ?_; simp only [↓reduceIte, Qnp]))
      simp only [QI, Qm, Qu, upd, ↓reduceIte, Qnr, Qnv]
      exact Qf List.take_length (.keep (.v _)) ⟨by rw [he2], rfl⟩
  · rw [hI]
    exact ⟨0, n, by omega, Nat.zero_le _, hn1, Int.le_refl _, by rw [List.drop_zero], rfl, rfl, rfl, rfl⟩
end Go.Proofs.YtehjodmnajgdgaaGreatDoor.Ab
set_option maxRecDepth 4000
namespace Go.Proofs.YtehjodmnajgdgaaGreatDoor.Ab
open Go.Proofs
theorem Qgf (n : Int) : cmpI n n = 0 := by simp [cmpI]
theorem QbG : ∀ l : List UInt8, Op.bytesLess l l = false
  | [] => rfl
  | a :: l => by simp [Op.bytesLess, QbG l]
theorem Qg1 (s : ByteArray) : cmpS s s = 0 := by simp [cmpS, QbG]
mutual
theorem QgU : ∀ t : T, cmpT t t = 0
  | .mk k i n l => by
    have h0 : ((0 : Int) != 0) = false := rfl
    simp only [cmpT, Qgf, Qg1, Qeb l, h0, Qnp, ↓reduceIte, or3, orL, ite_self]
theorem Qeb : ∀ l : List T, cmpL l l = 0
  | [] => by simp [cmpL]
  | t :: l => by simp [cmpL, QgU t, Qeb l]
end
theorem Qdr (p : G) (hn : ndsL p.args ≤ 1000000) : Pure Tryz.prog 60 [p.atom, p.atom] (.i 0) := by
  intro h
  have hl := XZ p.args
  have c1 := Qid p.name p.name
  rw [Qg1] at c1
  have c2 := QcQ p.args.length p.args.length
  rw [Qgf] at c2
  have c3 := Qfa 1000000 (ZJ 1000000 (Nat.le_refl _)) p.args p.args hn (by omega)
  rw [Qeb] at c3
  have z0 : ((0 : Int) == 0) = true := rfl
  refine Qe Tryz.func60 rfl Tryz.call60 Tryz.ntmps60 (congrArg Array.toList Tryz.results60) (by simp) ?_
  repeat (first | ((first | (with_reducible (first | refine Qa fun K E hK hE => ?_ | refine Qs fun K E hK hE => ?_ | refine Qo c1 ?_ | refine Qo c2 ?_ | refine Qo c3 ?_))); simp -implicitDefEqProofs only [Qd, Qb, Qg, OpW, QO, aop, undef, AS.ev, Qc, Qn, Qi, Qw, Qns, QnL, AV.QmP, QnF, QnG, Qt, QC, QnH, ↓reduceIte, Qny, Qnz, Nat.reduceAdd, Nat.reduceLT, Nat.reduceEqDiff, Qnx, QnK, Qp, QK, QL, aBin, aLen, QT, hget, hlen, happ, Qnl, Qnm, Qnn, QnA, QnE, QnN, QnM, QS, goInt, Qnt, QH, ti9, ti22, un22, QbF, Qc1, Xm]) | (with_reducible (first | refine Qh fun K hK => ?_ | refine Ql ?_ | refine Qj ?_)) | ((with_reducible refine hK _ ?_); clear hK) | (refine Qk rfl ?_; simp only [↓reduceIte]))
  simp only [QI, Qm, Qu, upd, ↓reduceIte, Qnr, Qnv]; first | refine Qf (htake _ _) (.keep (.v _)) ⟨rfl, rfl⟩ | refine Qf List.take_length (.keep (.v _)) ⟨rfl, rfl⟩
theorem Qf4 (p : G) (hn : ndsL p.args ≤ 1000000) : Pure Tryz.prog 23 [p.atom, p.atom] (.b true) := by
  intro h
  have c := Qdr p hn
  have z0 : ((0 : Int) == 0) = true := rfl
  refine Qe Tryz.func23 rfl Tryz.call23 Tryz.ntmps23 (congrArg Array.toList Tryz.results23) (by simp) ?_
  repeat (first | ((first | (with_reducible (first | refine Qa fun K E hK hE => ?_ | refine Qo c ?_))); simp -implicitDefEqProofs only [Qd, Qb, Qg, OpW, QO, aop, undef, AS.ev, Qc, Qn, Qr, Qi, Qw, Qns, QnL, AV.QmP, QnF, QnG, Qt, QC, QnH, ↓reduceIte, Qny, Qnz, Nat.reduceAdd, Nat.reduceLT, Nat.reduceEqDiff, Qnx, QnT, QK, QL, aBin, QT, hget, hlen, happ, Qnl, Qnm, Qnn, QnA, QnE, QnN, QnM, QS, Qnt, ti34, Xm, XP]) | (with_reducible refine Ql ?_) | ((with_reducible refine hK _ ?_); clear hK))
  simp only [QI, Qm, Qu, upd, ↓reduceIte, Qnr, Qnv]; first | refine Qf (htake _ _) (.keep (.v _)) ⟨rfl, rfl⟩ | refine Qf List.take_length (.keep (.v _)) ⟨rfl, rfl⟩
end Go.Proofs.YtehjodmnajgdgaaGreatDoor.Ab
namespace Go.Proofs.YtehjodmnajgdgaaGreatDoor.Ab
mutual
/-- the occurrences of variables -/
def T.vars : T → List Int
  | .mk k i _ l => if k = 1 then [i] else if k = 2 then QmI l else []
def QmI : List T → List Int
  | [] => []
  | t :: l => t.vars ++ QmI l
end
end Go.Proofs.YtehjodmnajgdgaaGreatDoor.Ab
namespace Go.Proofs.YtehjodmnajgdgaaGreatDoor.Ab
mutual
def T.dep : T → Nat
  | .mk k _ _ l => 1 + (if k = 2 then deps l else 0)
def deps : List T → Nat
  | [] => 0
  | t :: l => max t.dep (deps l)
end
theorem T.Qng (t : T) : t.dep = 1 + deps t.uses := by
  cases t with | mk k i n l =>
  show T.dep (.mk k i n l) = 1 + deps (if k = 2 then l else [])
  simp only [T.dep]
  by_cases h : k = 2
  · simp [h]
  · simp [h, deps]
theorem Qep : ∀ l r : List T, deps (l ++ r) = max (deps l) (deps r)
  | [], r => by simp [deps]
  | t :: l, r => by simp only [QnN, deps, Qep l r]; omega
theorem QeY {l : List T} {k : Nat} (h : k < l.length) : deps (l.take (k + 1)) = max (deps (l.take k)) (l[k]).dep := by
  rw [List.take_succ_eq_append_getElem h, Qep]; simp [deps]
mutual
theorem T.Qna : ∀ t : T, t.dep ≤ t.size
  | .mk k i n l => by
    simp only [T.dep, T.size]
    have := Qfd l
    split <;> omega
theorem Qfd : ∀ l : List T, deps l ≤ sizes l
  | [] => Nat.le_refl _
  | t :: l => by
    simp only [deps, sizes]
    have := T.Qna t
    have := Qfd l
    omega
end
end Go.Proofs.YtehjodmnajgdgaaGreatDoor.Ab
set_option maxRecDepth 4000
namespace Go.Proofs.YtehjodmnajgdgaaGreatDoor.Ab
open Go.Proofs
theorem Qc4 (t : T) : Pure Tryz.prog 104 [t.av] (.sl 4 (avs t.uses) none) := by
  intro h
  refine Qe Tryz.func104 rfl Tryz.call104 Tryz.ntmps104 (congrArg Array.toList Tryz.results104) (by simp) ?_
  by_cases hk : t.kind = 2
  · have hb : (t.kind == 2) = true := by simpa using hk
    repeat (first | (((with_reducible refine Qa fun K E hK hE => ?_)); simp -implicitDefEqProofs only [Qd, Qb, Qg, OpW, aop, undef, AS.ev, Qc, Qn, YG, Qi, Qw, Qns, AV.QmP, QnF, QnG, Qv, Qt, QC, QnH, ↓reduceIte, Qny, Qnz, Nat.reduceAdd, Nat.reduceLT, Nat.reduceEqDiff, Qnx, QnK, Qp, QK, QL, aBin, QT, Qnl, Qnm, Qnn, QS, T.QmN, ti3, ti22, Xq, Xy, hb, T.QmN]) | (with_reducible (first | refine Qh fun K hK => ?_ | refine Ql ?_ | refine Qy ?_)) | ((with_reducible refine hK _ ?_); clear hK) | (refine Qk rfl ?_; simp only [↓reduceIte]))
    simp only [QI, Qm, Qu, upd, ↓reduceIte, Qnr, Qnv]
    refine Qf (htake _ _) (.keep (Qd6 _ _)) ⟨by rw [T.uses, if_pos hk], rfl⟩
  · have hb : (t.kind == 2) = false := by simpa using hk
    repeat (first | (((with_reducible refine Qa fun K E hK hE => ?_)); simp -implicitDefEqProofs only [Qd, Qb, Qg, OpW, aop, undef, AS.ev, Qc, Qn, YG, Qi, Qw, Qns, AV.QmP, QnF, QnG, Qv, Qt, QC, QnH, ↓reduceIte, Qny, Qnz, Nat.reduceAdd, Nat.reduceLT, Nat.reduceEqDiff, Qnx, QnK, Qp, QK, QL, aBin, QT, Qnl, Qnn, QS, T.QmN, ti3, Xq, hb, T.QmN]) | (with_reducible (first | refine Qh fun K hK => ?_ | refine Ql ?_ | refine QA ?_ | refine Qj ?_)) | ((with_reducible refine hK _ ?_); clear hK) | (refine Qk rfl ?_; simp only [↓reduceIte, Qnp]))
    simp only [QI, Qm, Qu, upd, ↓reduceIte, Qnr, Qnv]
    refine Qf (htake _ _) (.nil 4) ⟨by rw [T.uses, if_neg hk]; rfl, rfl⟩
theorem Qkw {t : T} {k : Nat} (h : k < t.uses.length) : (t.uses[k]).size < t.size := by
  have h1 := QaT h
  have h2 := QaC t.uses (k + 1)
  have h3 := T.size_eq t
  omega
theorem Qc2 (n : Nat) : ∀ t : T, t.size ≤ n → n ≤ 1000000 → Pure Tryz.prog 62 [t.av] (.i (t.size : Nat)) := by
  induction n with
  | zero => intro t h; have := size_pos t; omega
  | succ n ih =>
    intro t hn hb h
    have hsz := T.size_eq t
    have hll := QaV t.uses
    have c0 := Qc4 t
    refine Qe Tryz.func62 rfl Tryz.call62 Tryz.ntmps62 (congrArg Array.toList Tryz.results62) (by simp) ?_
    repeat (first | ((first | (with_reducible (first | refine Qa fun K E hK hE => ?_ | refine Qo c0 ?_))); simp -implicitDefEqProofs only [Qd, Qb, Qg, OpW, QO, aop, undef, AS.ev, Qc, Qn, Qi, Qw, Qns, AV.QmP, QnF, QnG, Qv, Qt, QC, QnH, ↓reduceIte, Qny, Qnz, Nat.reduceAdd, Nat.reduceLT, Nat.reduceEqDiff, Qnx, QnT, QK, QL, QT, Qnl, Qnn, QnA, QnE, T.QmN, T.QmO, ti24, T.QmN, T.QmO]) | (with_reducible (first | refine Qh fun K hK => ?_ | refine Qq ?_)) | ((with_reducible refine hK _ ?_); clear hK))
    obtain ⟨I, hI⟩ : ∃ I : Nat → AS → Prop, I = fun m' s => ∃ (k : Nat) (L : AH), m' = t.uses.length - k ∧ k ≤ t.uses.length ∧ s.tm 3 = .i ((1 + sizes (t.uses.take k) : Nat) : Int) ∧ s.tm 4 = .sl 4 (avs t.uses) none ∧ s.tm 5 = .i k ∧ s.h = h ++ L := ⟨_, rfl⟩; refine XM I ?_ (m := t.uses.length) ?_
    · intro m' s hs; rw [hI] at hs; obtain ⟨tm, hp⟩ := s; dsimp only at hs; obtain ⟨k, L, rfl, hk, t3, t4, t5, rfl⟩ := hs
      by_cases hlt : k < t.uses.length
      · have hts := QaT hlt
        have htl := QaC t.uses (k + 1)
        have c := ih t.uses[k] (by have := Qkw hlt; omega) (by omega)
        repeat (first | ((first | (with_reducible (first | refine Qa fun K E hK hE => ?_ | refine Qs fun K E hK hE => ?_ | refine Qo c ?_))); simp -implicitDefEqProofs only [Qd, Qb, Qg, OpW, QO, aop, AS.ev, Qc, Qn, Qi, ↓reduceIte, Qny, Qnz, Nat.reduceAdd, Nat.reduceLT, Nat.reduceEqDiff, Qnx, QnT, QK, QL, QZ, aBin, aLen, Qnn, QnA, QnE, Q0, X8, goInt, QnR, QnY, QnX, Qn9, T.QmN, T.QmO, QH, ei22, un22, ti24, hlt, t3, t4, t5, QH, Y3 hlt, T.QmN, T.QmO]) | (with_reducible (first | refine Qh fun K hK => ?_ | refine Qq ?_ | refine QA ?_ | refine Qj ?_ | refine QD ?_)) | ((with_reducible refine hK _ ?_); clear hK) | (refine Qk rfl ?_; simp only [↓reduceIte]))
        refine Yr.mk (m' := t.uses.length - (k + 1)) (by omega) ?_
        rw [hI]
        refine ⟨k + 1, _, rfl, hlt, ?_, t4, ?_, rfl⟩
        · simp only [upd, ↓reduceIte, Nat.reduceEqDiff]
          rw [XW (by omega)]
          congr 2; omega
        · simp only [upd, ↓reduceIte]
          rw [Yd (by omega)]
      · have hkl : k = t.uses.length := by omega
        repeat (first | (((with_reducible refine Qa fun K E hK hE => ?_)); simp -implicitDefEqProofs only [Qd, Qb, Qg, OpW, aop, AS.ev, Qc, Qi, ↓reduceIte, Nat.reduceLT, Nat.reduceEqDiff, aBin, aLen, Qnn, Q0, goInt, QnS, Qn9, QH, un22, hlt, t3, t4, t5, QH]) | (with_reducible (first | refine Qh fun K hK => ?_ | refine Ql ?_ | refine Xj ?_ | refine Qj ?_ | refine Q9 ?_ | refine Q8 ?_)) | ((with_reducible refine hK _ ?_); clear hK) | (clear hK; (with_reducible refine hK _ ?_); clear hK) | (refine Qk rfl ?_; simp only [↓reduceIte, Qnp]))
        simp only [QI, Qm, Qu, upd, ↓reduceIte, Qnr, Qnv]
        refine Qf (htake _ _) (.keep (.v _)) ⟨?_, rfl⟩
        rw [hkl, List.take_length, hsz]
    · rw [hI]
      exact ⟨0, [.cells 24 4 [t.av]], by omega, Nat.zero_le _, rfl, rfl, rfl, rfl⟩
theorem QfJ (n : Nat) : ∀ t : T, t.size ≤ n → n ≤ 1000000 → Pure Tryz.prog 63 [t.av] (.i (t.dep : Nat)) := by
  induction n with
  | zero => intro t h; have := size_pos t; omega
  | succ n ih =>
    intro t hn hb h
    have hsz := T.size_eq t
    have hll := QaV t.uses
    have hde := T.Qng t
    have hds := T.Qna t
    have c0 := Qc4 t
    refine Qe Tryz.func63 rfl Tryz.call63 Tryz.ntmps63 (congrArg Array.toList Tryz.results63) (by simp) ?_
    repeat (first | ((first | (with_reducible (first | refine Qa fun K E hK hE => ?_ | refine Qo c0 ?_))); simp -implicitDefEqProofs only [Qd, Qb, Qg, OpW, QO, aop, undef, AS.ev, Qc, Qn, Qi, Qw, Qns, AV.QmP, QnF, QnG, Qv, Qt, QC, QnH, ↓reduceIte, Qny, Qnz, Nat.reduceAdd, Nat.reduceLT, Nat.reduceEqDiff, Qnx, QnT, QK, QL, QT, Qnl, Qnn, QnA, QnE, T.QmN, T.QmO, ti24, T.QmN, T.QmO]) | (with_reducible (first | refine Qh fun K hK => ?_ | refine Qq ?_)) | ((with_reducible refine hK _ ?_); clear hK))
    obtain ⟨I, hI⟩ : ∃ I : Nat → AS → Prop, I = fun m' s => ∃ (k : Nat) (L : AH), m' = t.uses.length - k ∧ k ≤ t.uses.length ∧ s.tm 3 = .i ((deps (t.uses.take k) : Nat) : Int) ∧ s.tm 4 = .sl 4 (avs t.uses) none ∧ s.tm 5 = .i k ∧ s.h = h ++ L := ⟨_, rfl⟩; refine XM I ?_ (m := t.uses.length) ?_
    · intro m' s hs; rw [hI] at hs; obtain ⟨tm, hp⟩ := s; dsimp only at hs; obtain ⟨k, L, rfl, hk, t3, t4, t5, rfl⟩ := hs
      by_cases hlt : k < t.uses.length
      · have hts := QeY hlt
        have c := ih t.uses[k] (by have := Qkw hlt; omega) (by omega)
        repeat (first | ((first | (with_reducible (first | refine Qa fun K E hK hE => ?_ | refine Qs fun K E hK hE => ?_ | refine Qo c ?_))); simp -implicitDefEqProofs only [Qd, Qb, Qg, OpW, QO, aop, AS.ev, Qc, Qn, Qi, ↓reduceIte, Qny, Qnz, Nat.reduceAdd, Nat.reduceLT, Nat.reduceEqDiff, Qnx, QnT, QK, QL, QZ, aBin, aLen, Qnn, QnA, QnE, Q0, X8, QmE, goInt, QnR, QnY, QnX, Qn9, T.QmN, T.QmO, QH, ei22, un22, ti24, hlt, t3, t4, t5, QH, Y3 hlt, T.QmN, T.QmO]) | (with_reducible (first | refine Qh fun K hK => ?_ | refine Qq ?_ | refine QA ?_ | refine Qj ?_ | refine QD ?_)) | ((with_reducible refine hK _ ?_); clear hK) | (refine Qk rfl ?_; simp only [↓reduceIte]))
        refine Yr.mk (m' := t.uses.length - (k + 1)) (by omega) ?_
        rw [hI]
        refine ⟨k + 1, _, rfl, hlt, ?_, t4, ?_, rfl⟩
        · simp only [upd, ↓reduceIte, Nat.reduceEqDiff]
          rw [hts]
          congr 2
          split <;> omega
        · simp only [upd, ↓reduceIte]
          rw [Yd (by omega)]
      · have hkl : k = t.uses.length := by omega
        have hd2 : deps (t.uses.take k) = deps t.uses := by rw [hkl, List.take_length]
        rw [hd2] at t3
        repeat (first | (((with_reducible refine Qa fun K E hK hE => ?_)); simp -implicitDefEqProofs only [Qd, Qb, Qg, OpW, aop, AS.ev, Qc, Qn, Qi, ↓reduceIte, Nat.reduceLT, Nat.reduceEqDiff, aBin, aLen, Qnn, Q0, X8, goInt, QnS, Qn9, QH, un22, hlt, t3, t4, t5, QH]) | (with_reducible (first | refine Qh fun K hK => ?_ | refine Ql ?_ | refine Xj ?_ | refine Qj ?_ | refine Q9 ?_ | refine Q8 ?_)) | ((with_reducible refine hK _ ?_); clear hK) | (clear hK; (with_reducible refine hK _ ?_); clear hK) | (refine Qk rfl ?_; simp only [↓reduceIte, Qnp]))
        simp only [QI, Qm, Qu, upd, ↓reduceIte, Qnr, Qnv]
        refine Qf (htake _ _) (.keep (.v _)) ⟨?_, rfl⟩
        rw [Yd (by omega), hde, Nat.add_comm]
    · rw [hI]
      exact ⟨0, [.cells 24 4 [t.av]], by omega, Nat.zero_le _, rfl, rfl, rfl, rfl⟩
end Go.Proofs.YtehjodmnajgdgaaGreatDoor.Ab
set_option maxRecDepth 4000
namespace Go.Proofs.YtehjodmnajgdgaaGreatDoor.Ab
open Go.Proofs
mutual
def T.QmQ : T → Bool
  | .mk k i n l =>
    if k = 0 then decide (-2147483648 ≤ i ∧ i ≤ 2147483648) && YU n && l.isEmpty else
    if k = 1 then decide (0 ≤ i ∧ i ≤ 1048576) && YU n && l.isEmpty else
    if k = 2 then (if i ≠ 0 ∨ 6 < l.length then false else if (!XV n && !(opB n && decide (l.length = 2))) = true then false else X7 l) else false
def X7 : List T → Bool
  | [] => true
  | t :: l => t.QmQ && X7 l
end
theorem T.QmR (t : T) : t.QmQ = if t.kind = 0 then decide (-2147483648 ≤ t.int ∧ t.int ≤ 2147483648) && YU t.name && t.args.isEmpty else
    if t.kind = 1 then decide (0 ≤ t.int ∧ t.int ≤ 1048576) && YU t.name && t.args.isEmpty else
    if t.kind = 2 then (if t.int ≠ 0 ∨ 6 < t.args.length then false else if (!XV t.name && !(opB t.name && decide (t.args.length = 2))) = true then false else X7 t.args) else false := by
  cases t; rw [T.QmQ]; rfl
theorem QhF {l : List T} {k : Nat} (h : k < l.length) : X7 (l.drop k) = ((l[k]).QmQ && X7 (l.drop (k + 1))) := by
  rw [List.drop_eq_getElem_cons h]; simp only [X7]
theorem Qew {p q : Prop} [Decidable p] [Decidable q] : (decide p && decide q) = decide (p ∧ q) := by
  by_cases hp : p <;> by_cases hq : q <;> simp [hp, hq]
mutual
theorem T.QmX : ∀ (t : T) (b d : Int), (t.run b d).1 = (t.QmQ && decide ((t.size : Int) ≤ b ∧ (t.dep : Int) ≤ d)) ∧ ((t.run b d).1 = true → (t.run b d).2 = b - t.size)
  | .mk k i n l, b, d => by
    have hs := size_pos (.mk k i n l)
    have hd : 1 ≤ (T.mk k i n l).dep := by rw [T.Qng]; omega
    rw [T.run, T.QmQ]
    by_cases h1 : b - 1 < 0 ∨ d < 1
    · rw [if_pos h1, decide_eq_false (show ¬ (((T.mk k i n l).size : Int) ≤ b ∧ ((T.mk k i n l).dep : Int) ≤ d) by omega), Bool.and_false]
      exact ⟨rfl, fun h => by cases h⟩
    rw [if_neg h1]
    have one : k ≠ 2 → (T.mk k i n l).size = 1 ∧ (T.mk k i n l).dep = 1 := fun h => by simp only [T.size, T.dep, if_neg h]; exact ⟨trivial, trivial⟩
    by_cases k0 : k = 0
    · obtain ⟨e1, e2⟩ := one (by omega)
      rw [if_pos k0, if_pos k0, e1, e2, decide_eq_true (show ((1 : Nat) : Int) ≤ b ∧ ((1 : Nat) : Int) ≤ d by omega), Bool.and_true]
      exact ⟨rfl, fun _ => rfl⟩
    rw [if_neg k0, if_neg k0]
    by_cases k1 : k = 1
    · obtain ⟨e1, e2⟩ := one (by omega)
      rw [if_pos k1, if_pos k1, e1, e2, decide_eq_true (show ((1 : Nat) : Int) ≤ b ∧ ((1 : Nat) : Int) ≤ d by omega), Bool.and_true]
      exact ⟨rfl, fun _ => rfl⟩
    rw [if_neg k1, if_neg k1]
    by_cases k2 : k = 2
    · rw [if_pos k2, if_pos k2]
      by_cases h2 : i ≠ 0 ∨ 6 < l.length
      · rw [if_pos h2, if_pos h2]; exact ⟨rfl, fun h => by cases h⟩
      rw [if_neg h2, if_neg h2]
      by_cases h3 : (!XV n && !(opB n && decide (l.length = 2))) = true
      · rw [if_pos h3, if_pos h3]; exact ⟨rfl, fun h => by cases h⟩
      rw [if_neg h3, if_neg h3]
      have e1 : (T.mk k i n l).size = 1 + sizes l := by simp only [T.size, if_pos k2]
      have e2 : (T.mk k i n l).dep = 1 + deps l := by simp only [T.dep, if_pos k2]
      obtain ⟨r1, r2⟩ := Qao l (b - 1) (d - 1) (by omega) (by omega)
      rw [e1, e2]
      refine ⟨?_, fun h => by rw [r2 h]; omega⟩
      rw [r1]
      congr 1
      exact decide_eq_decide.2 (by omega)
    · rw [if_neg k2, if_neg k2]; exact ⟨rfl, fun h => by cases h⟩
theorem Qao : ∀ (l : List T) (b d : Int), 0 ≤ b → 0 ≤ d → (runL l b d).1 = (X7 l && decide ((sizes l : Int) ≤ b ∧ (deps l : Int) ≤ d)) ∧ ((runL l b d).1 = true → (runL l b d).2 = b - sizes l)
  | [], b, d, hb, hd => by
    rw [runL, X7, sizes, deps, decide_eq_true (show ((0 : Nat) : Int) ≤ b ∧ ((0 : Nat) : Int) ≤ d by omega)]
    exact ⟨rfl, fun _ => by omega⟩
  | t :: l, b, d, hb, hd => by
    obtain ⟨r1, r2⟩ := T.QmX t b d
    rw [runL, X7, sizes, deps]
    by_cases h : (t.run b d).1 = true
    · rw [if_pos h]
      have e := r2 h
      rw [r1, Bool.and_eq_true, decide_eq_true_eq] at h
      obtain ⟨hf, h1, h2⟩ := h
      obtain ⟨q1, q2⟩ := Qao l (t.run b d).2 d (by omega) hd
      rw [hf, Bool.true_and]
      refine ⟨?_, fun h => by rw [q2 h]; omega⟩
      rw [q1]
      congr 1
      exact decide_eq_decide.2 (by omega)
    · rw [if_neg h]
      refine ⟨?_, fun h => by cases h⟩
      rw [r1] at h
      cases hf : t.QmQ with
      | false => rfl
      | true =>
        rw [hf, Bool.true_and, decide_eq_true_eq] at h
        rw [decide_eq_false (by omega), Bool.and_false]
end
theorem T.QmU (t : T) : (t.run 200 20).1 = (t.QmQ && (decide (t.size ≤ 200) && decide (t.dep ≤ 20))) := by
  rw [(T.QmX t 200 20).1, Qew]
  congr 1
  exact decide_eq_decide.2 (by omega)
def rargs : List T → Nat → Bool
  | [], n => decide (n ≤ 200)
  | t :: l, n => (t.run 200 20).1 && rargs l (n + t.size)
theorem Qip : ∀ (l : List T) (n : Nat), 200 < n → rargs l n = false
  | [], n, h => by rw [rargs, decide_eq_false (by omega)]
  | t :: l, n, h => by rw [rargs, Qip l _ (by omega), Bool.and_false]
theorem Qg5 : ∀ (l : List T) (n : Nat), n ≤ 200 → rargs l n = (runL l (200 - n) 20).1
  | [], n, h => by rw [rargs, runL, decide_eq_true h]
  | t :: l, n, h => by
    obtain ⟨r1, _⟩ := T.QmX t 200 20
    obtain ⟨q1, q2⟩ := T.QmX t (200 - n) 20
    rw [rargs, runL, r1]
    by_cases hq : (t.run (200 - n) 20).1 = true
    · rw [if_pos hq, q2 hq]
      rw [q1, Bool.and_eq_true, decide_eq_true_eq] at hq
      rw [hq.1, decide_eq_true (by omega), Bool.true_and, Bool.true_and, Qg5 l (n + t.size) (by omega)]
      congr 2; omega
    · rw [if_neg hq]
      rw [q1] at hq
      cases hf : t.QmQ with
      | false => rfl
      | true =>
        rw [hf, Bool.true_and, decide_eq_true_eq] at hq
        by_cases h2 : n + t.size ≤ 200
        · rw [decide_eq_false (by omega)]; rfl
        · rw [Qip l _ (by omega), Bool.and_false]
theorem Qkr (l : List T) : rargs l 0 = (runL l 200 20).1 := by
  have := Qg5 l 0 (by omega)
  simpa using this
mutual
theorem T.QmT : ∀ t : T, t.size ≤ t.nds
  | .mk k i n l => by
    simp only [T.size, T.nds]
    have := Qa0 l
    split <;> omega
theorem Qa0 : ∀ l : List T, sizes l ≤ ndsL l
  | [] => Nat.le_refl _
  | t :: l => by
    simp only [sizes, ndsL]
    have := T.QmT t
    have := Qa0 l
    omega
end
theorem QkZ (t : T) (k0 : t.kind = 0) : Pure Tryz.prog 61 [t.av] (.b t.QmQ) := by
  intro h
  have z0 : (t.kind == 0) = true := by simp [k0]
  by_cases c1 : t.int ≥ -2147483648
  rotate_left
  · have e1 : ¬ -2147483648 ≤ t.int := by omega
    have R : t.QmQ = false := by
      rw [T.QmR, if_pos k0]; simp [e1]
    rw [R]
    refine Qe Tryz.func61 rfl Tryz.call61 Tryz.ntmps61 (congrArg Array.toList Tryz.results61) (by simp) ?_
    repeat (first | (((with_reducible refine Qa fun K E hK hE => ?_)); simp -implicitDefEqProofs only [Qd, Qb, Qg, OpW, aop, undef, AS.ev, Qc, Qn, Qr, Qi, Qw, Qns, AV.QmP, QnF, QnG, Qv, Qt, QC, QnH, ↓reduceIte, Qny, Qnz, Nat.reduceAdd, Nat.reduceLT, Nat.reduceEqDiff, Qnx, QnK, Qp, QK, QL, aBin, QT, Qnl, Qnm, Qnn, Qnq, Qno, QS, XD, QnS, Qnp, beq_true, T.QmN, ti3, Xq, XG, T.QmN, z0, c1]) | (with_reducible (first | refine Qh fun K hK => ?_ | refine Qq ?_ | refine Ql ?_ | refine Qy ?_ | refine QF ?_)) | ((with_reducible refine hK _ ?_); clear hK) | (refine Qk rfl ?_; simp only [↓reduceIte]))
    simp only [QI, Qm, Qu, upd, ↓reduceIte, Qnr, Qnv]; first | refine Qf (htake _ _) (.keep (.v _)) ⟨rfl, rfl⟩ | refine Qf List.take_length (.keep (.v _)) ⟨rfl, rfl⟩
  have e1 : -2147483648 ≤ t.int := by omega
  by_cases c2 : t.int ≤ 2147483648
  rotate_left
  · skip
    have R : t.QmQ = false := by
      rw [T.QmR, if_pos k0]; simp [e1, c2]
    rw [R]
    refine Qe Tryz.func61 rfl Tryz.call61 Tryz.ntmps61 (congrArg Array.toList Tryz.results61) (by simp) ?_
    repeat (first | (((with_reducible refine Qa fun K E hK hE => ?_)); simp -implicitDefEqProofs only [Qd, Qb, Qg, OpW, aop, undef, AS.ev, Qc, Qn, Qr, Qi, Qw, Qns, AV.QmP, QnF, QnG, Qv, Qt, QC, QnH, ↓reduceIte, Qny, Qnz, Nat.reduceAdd, Nat.reduceLT, Nat.reduceEqDiff, Qnx, QnK, Qp, QK, QL, aBin, QT, Qnl, Qnm, Qnn, Qnq, Qno, QS, Xe, XD, QnR, QnS, Qnt, Qnp, beq_true, T.QmN, ti3, Xq, XG, T.QmN, z0, c1, c2]) | (with_reducible (first | refine Qh fun K hK => ?_ | refine Qq ?_ | refine Ql ?_ | refine Qy ?_ | refine QF ?_)) | ((with_reducible refine hK _ ?_); clear hK) | (refine Qk rfl ?_; simp only [↓reduceIte]))
    simp only [QI, Qm, Qu, upd, ↓reduceIte, Qnr, Qnv]; first | refine Qf (htake _ _) (.keep (.v _)) ⟨rfl, rfl⟩ | refine Qf List.take_length (.keep (.v _)) ⟨rfl, rfl⟩
  cases c3 : YU t.name with
  | false =>
    have c3' : (t.name.toList == ({ data := #[] } : ByteArray).toList) = false := c3
    have R : t.QmQ = false := by
      rw [T.QmR, if_pos k0]; simp [e1, c2, c3]
    rw [R]
    refine Qe Tryz.func61 rfl Tryz.call61 Tryz.ntmps61 (congrArg Array.toList Tryz.results61) (by simp) ?_
    repeat (first | (((with_reducible refine Qa fun K E hK hE => ?_)); simp -implicitDefEqProofs only [Qd, Qb, Qg, OpW, aop, undef, AS.ev, Qc, Qn, Qr, QG, Qi, Qw, Qns, AV.QmP, QnF, QnG, Qv, Qt, QC, QnH, ↓reduceIte, Qny, Qnz, Nat.reduceAdd, Nat.reduceLT, Nat.reduceEqDiff, Qnx, QnK, Qp, QK, QL, aBin, QT, Qnl, Qnm, Qnn, Qnq, Qno, QS, Xe, XD, QY, QnR, Qnt, Qnp, beq_true, T.QmN, ti3, ti9, Xq, XG, Xx, T.QmN, z0, c1, c2, c3']) | (with_reducible (first | refine Qh fun K hK => ?_ | refine Qq ?_ | refine Ql ?_ | refine Qy ?_ | refine QF ?_)) | ((with_reducible refine hK _ ?_); clear hK) | (refine Qk rfl ?_; simp only [↓reduceIte]))
    simp only [QI, Qm, Qu, upd, ↓reduceIte, Qnr, Qnv]; first | refine Qf (htake _ _) (.keep (.v _)) ⟨rfl, rfl⟩ | refine Qf List.take_length (.keep (.v _)) ⟨rfl, rfl⟩
  | true =>
    have c3' : (t.name.toList == ({ data := #[] } : ByteArray).toList) = true := c3
    cases hl : t.args with
    | nil =>
      have c4 : ((0 : Int) == 0) = true := rfl
      have R : t.QmQ = true := by
        rw [T.QmR, if_pos k0]; simp [e1, c2, c3, hl]
      rw [R]
      refine Qe Tryz.func61 rfl Tryz.call61 Tryz.ntmps61 (congrArg Array.toList Tryz.results61) (by simp) ?_
      repeat (first | (((with_reducible refine Qa fun K E hK hE => ?_)); simp -implicitDefEqProofs only [Qd, Qb, Qg, OpW, aop, undef, AS.ev, Qc, Qn, Qr, QG, Qi, Qw, Qns, AV.QmP, QnF, QnG, Qv, Qt, QC, QnH, ↓reduceIte, Qny, Qnz, Nat.reduceAdd, Nat.reduceLT, Nat.reduceEqDiff, Qnx, QnK, Qp, QK, QL, aBin, aLen, QT, Qnl, Qnm, Qnn, Qnq, Qno, QS, Xe, XD, QY, goInt, QnR, Qnt, Qn7, T.QmN, ti3, ti9, ti22, un22, Xq, XG, Xx, Xy, T.QmN, z0, c1, c2, c3', hl, Qek]) | (with_reducible (first | refine Qh fun K hK => ?_ | refine Qq ?_ | refine Ql ?_ | refine Qy ?_ | refine QF ?_)) | ((with_reducible refine hK _ ?_); clear hK) | (refine Qk rfl ?_; simp only [↓reduceIte]))
      simp only [QI, Qm, Qu, upd, ↓reduceIte, Qnr, Qnv]; first | refine Qf (htake _ _) (.keep (.v _)) ⟨rfl, rfl⟩ | refine Qf List.take_length (.keep (.v _)) ⟨rfl, rfl⟩
    | cons a l =>
      have c4 : (((l.length + 1 : Nat) : Int) == 0) = false := by simp; omega
      have R : t.QmQ = false := by
        rw [T.QmR, if_pos k0]; simp [e1, c2, c3, hl]
      rw [R]
      refine Qe Tryz.func61 rfl Tryz.call61 Tryz.ntmps61 (congrArg Array.toList Tryz.results61) (by simp) ?_
      repeat (first | (((with_reducible refine Qa fun K E hK hE => ?_)); simp -implicitDefEqProofs only [Qd, Qb, Qg, OpW, aop, undef, AS.ev, Qc, Qn, Qr, QG, Qi, Qw, Qns, AV.QmP, QnF, QnG, Qv, Qt, QC, QnH, ↓reduceIte, Qny, Qnz, Nat.reduceAdd, Nat.reduceLT, Nat.reduceEqDiff, Qnx, QnK, Qp, QK, QL, aBin, aLen, QT, Qnl, Qnm, Qnn, Qnq, Qno, QS, Xe, XD, QY, goInt, QnR, Qnt, T.QmN, QH, ti3, ti9, ti22, un22, Xq, XG, Xx, Xy, T.QmN, z0, c1, c2, c3', hl, QH, Qny, c4]) | (with_reducible (first | refine Qh fun K hK => ?_ | refine Qq ?_ | refine Ql ?_ | refine Qy ?_ | refine QF ?_)) | ((with_reducible refine hK _ ?_); clear hK) | (refine Qk rfl ?_; simp only [↓reduceIte]))
      simp only [QI, Qm, Qu, upd, ↓reduceIte, Qnr, Qnv]; first | refine Qf (htake _ _) (.keep (.v _)) ⟨rfl, rfl⟩ | refine Qf List.take_length (.keep (.v _)) ⟨rfl, rfl⟩
theorem Qlc (t : T) (k1 : t.kind = 1) : Pure Tryz.prog 61 [t.av] (.b t.QmQ) := by
  intro h
  have k0 : ¬ t.kind = 0 := by omega
  have z0 : (t.kind == 0) = false := by simp [k1]
  have z1 : (t.kind == 1) = true := by simp [k1]
  by_cases c1 : t.int ≥ 0
  rotate_left
  · have e1 : ¬ 0 ≤ t.int := by omega
    have R : t.QmQ = false := by
      rw [T.QmR, if_neg k0, if_pos k1]; simp [e1]
    rw [R]
    refine Qe Tryz.func61 rfl Tryz.call61 Tryz.ntmps61 (congrArg Array.toList Tryz.results61) (by simp) ?_
    repeat (first | (((with_reducible refine Qa fun K E hK hE => ?_)); simp -implicitDefEqProofs only [Qd, Qb, Qg, OpW, aop, undef, AS.ev, Qc, Qn, Qr, Qi, Qw, Qns, AV.QmP, QnF, QnG, Qv, Qt, QC, QnH, ↓reduceIte, Qny, Qnz, Nat.reduceAdd, Nat.reduceLT, Nat.reduceEqDiff, Qnx, QnK, Qp, QK, QL, aBin, QT, Qnl, Qnm, Qnn, Qnq, Qno, QS, XD, QnS, Qnp, beq_true, T.QmN, ti3, Xq, XG, T.QmN, z0, z1, c1]) | (with_reducible (first | refine Qh fun K hK => ?_ | refine Qq ?_ | refine Ql ?_ | refine Qy ?_ | refine QF ?_)) | ((with_reducible refine hK _ ?_); clear hK) | (refine Qk rfl ?_; simp only [↓reduceIte, Qnp]))
    simp only [QI, Qm, Qu, upd, ↓reduceIte, Qnr, Qnv]; first | refine Qf (htake _ _) (.keep (.v _)) ⟨rfl, rfl⟩ | refine Qf List.take_length (.keep (.v _)) ⟨rfl, rfl⟩
  have e1 : 0 ≤ t.int := by omega
  by_cases c2 : t.int ≤ 1048576
  rotate_left
  · skip
    have R : t.QmQ = false := by
      rw [T.QmR, if_neg k0, if_pos k1]; simp [e1, c2]
    rw [R]
    refine Qe Tryz.func61 rfl Tryz.call61 Tryz.ntmps61 (congrArg Array.toList Tryz.results61) (by simp) ?_
    repeat (first | (((with_reducible refine Qa fun K E hK hE => ?_)); simp -implicitDefEqProofs only [Qd, Qb, Qg, OpW, aop, undef, AS.ev, Qc, Qn, Qr, Qi, Qw, Qns, AV.QmP, QnF, QnG, Qv, Qt, QC, QnH, ↓reduceIte, Qny, Qnz, Nat.reduceAdd, Nat.reduceLT, Nat.reduceEqDiff, Qnx, QnK, Qp, QK, QL, aBin, QT, Qnl, Qnm, Qnn, Qnq, Qno, QS, Xe, XD, QnR, QnS, Qnt, Qnp, beq_true, T.QmN, ti3, Xq, XG, T.QmN, z0, z1, c1, c2]) | (with_reducible (first | refine Qh fun K hK => ?_ | refine Qq ?_ | refine Ql ?_ | refine Qy ?_ | refine QF ?_)) | ((with_reducible refine hK _ ?_); clear hK) | (refine Qk rfl ?_; simp only [↓reduceIte, Qnp]))
    simp only [QI, Qm, Qu, upd, ↓reduceIte, Qnr, Qnv]; first | refine Qf (htake _ _) (.keep (.v _)) ⟨rfl, rfl⟩ | refine Qf List.take_length (.keep (.v _)) ⟨rfl, rfl⟩
  cases c3 : YU t.name with
  | false =>
    have c3' : (t.name.toList == ({ data := #[] } : ByteArray).toList) = false := c3
    have R : t.QmQ = false := by
      rw [T.QmR, if_neg k0, if_pos k1]; simp [e1, c2, c3]
    rw [R]
    refine Qe Tryz.func61 rfl Tryz.call61 Tryz.ntmps61 (congrArg Array.toList Tryz.results61) (by simp) ?_
    repeat (first | (((with_reducible refine Qa fun K E hK hE => ?_)); simp -implicitDefEqProofs only [Qd, Qb, Qg, OpW, aop, undef, AS.ev, Qc, Qn, Qr, QG, Qi, Qw, Qns, AV.QmP, QnF, QnG, Qv, Qt, QC, QnH, ↓reduceIte, Qny, Qnz, Nat.reduceAdd, Nat.reduceLT, Nat.reduceEqDiff, Qnx, QnK, Qp, QK, QL, aBin, QT, Qnl, Qnm, Qnn, Qnq, Qno, QS, Xe, XD, QY, QnR, Qnt, Qnp, beq_true, T.QmN, ti3, ti9, Xq, XG, Xx, T.QmN, z0, z1, c1, c2, c3']) | (with_reducible (first | refine Qh fun K hK => ?_ | refine Qq ?_ | refine Ql ?_ | refine Qy ?_ | refine QF ?_)) | ((with_reducible refine hK _ ?_); clear hK) | (refine Qk rfl ?_; simp only [↓reduceIte, Qnp]))
    simp only [QI, Qm, Qu, upd, ↓reduceIte, Qnr, Qnv]; first | refine Qf (htake _ _) (.keep (.v _)) ⟨rfl, rfl⟩ | refine Qf List.take_length (.keep (.v _)) ⟨rfl, rfl⟩
  | true =>
    have c3' : (t.name.toList == ({ data := #[] } : ByteArray).toList) = true := c3
    cases hl : t.args with
    | nil =>
      have c4 : ((0 : Int) == 0) = true := rfl
      have R : t.QmQ = true := by
        rw [T.QmR, if_neg k0, if_pos k1]; simp [e1, c2, c3, hl]
      rw [R]
      refine Qe Tryz.func61 rfl Tryz.call61 Tryz.ntmps61 (congrArg Array.toList Tryz.results61) (by simp) ?_
      repeat (first | (((with_reducible refine Qa fun K E hK hE => ?_)); simp -implicitDefEqProofs only [Qd, Qb, Qg, OpW, aop, undef, AS.ev, Qc, Qn, Qr, QG, Qi, Qw, Qns, AV.QmP, QnF, QnG, Qv, Qt, QC, QnH, ↓reduceIte, Qny, Qnz, Nat.reduceAdd, Nat.reduceLT, Nat.reduceEqDiff, Qnx, QnK, Qp, QK, QL, aBin, aLen, QT, Qnl, Qnm, Qnn, Qnq, Qno, QS, Xe, XD, QY, goInt, QnR, Qnt, Qn7, T.QmN, ti3, ti9, ti22, un22, Xq, XG, Xx, Xy, T.QmN, z0, z1, c1, c2, c3', hl, Qek]) | (with_reducible (first | refine Qh fun K hK => ?_ | refine Qq ?_ | refine Ql ?_ | refine Qy ?_ | refine QF ?_)) | ((with_reducible refine hK _ ?_); clear hK) | (refine Qk rfl ?_; simp only [↓reduceIte, Qnp]))
      simp only [QI, Qm, Qu, upd, ↓reduceIte, Qnr, Qnv]; first | refine Qf (htake _ _) (.keep (.v _)) ⟨rfl, rfl⟩ | refine Qf List.take_length (.keep (.v _)) ⟨rfl, rfl⟩
    | cons a l =>
      have c4 : (((l.length + 1 : Nat) : Int) == 0) = false := by simp; omega
      have R : t.QmQ = false := by
        rw [T.QmR, if_neg k0, if_pos k1]; simp [e1, c2, c3, hl]
      rw [R]
      refine Qe Tryz.func61 rfl Tryz.call61 Tryz.ntmps61 (congrArg Array.toList Tryz.results61) (by simp) ?_
      repeat (first | (((with_reducible refine Qa fun K E hK hE => ?_)); simp -implicitDefEqProofs only [Qd, Qb, Qg, OpW, aop, undef, AS.ev, Qc, Qn, Qr, QG, Qi, Qw, Qns, AV.QmP, QnF, QnG, Qv, Qt, QC, QnH, ↓reduceIte, Qny, Qnz, Nat.reduceAdd, Nat.reduceLT, Nat.reduceEqDiff, Qnx, QnK, Qp, QK, QL, aBin, aLen, QT, Qnl, Qnm, Qnn, Qnq, Qno, QS, Xe, XD, QY, goInt, QnR, Qnt, T.QmN, QH, ti3, ti9, ti22, un22, Xq, XG, Xx, Xy, T.QmN, z0, z1, c1, c2, c3', hl, QH, Qny, c4]) | (with_reducible (first | refine Qh fun K hK => ?_ | refine Qq ?_ | refine Ql ?_ | refine Qy ?_ | refine QF ?_)) | ((with_reducible refine hK _ ?_); clear hK) | (refine Qk rfl ?_; simp only [↓reduceIte, Qnp]))
      simp only [QI, Qm, Qu, upd, ↓reduceIte, Qnr, Qnv]; first | refine Qf (htake _ _) (.keep (.v _)) ⟨rfl, rfl⟩ | refine Qf List.take_length (.keep (.v _)) ⟨rfl, rfl⟩
theorem QiT (t : T) (k0 : ¬ t.kind = 0) (k1 : ¬ t.kind = 1) (k2 : ¬ t.kind = 2) : Pure Tryz.prog 61 [t.av] (.b t.QmQ) := by
  intro h
  have z0 : (t.kind == 0) = false := by simp [k0]
  have z1 : (t.kind == 1) = false := by simp [k1]
  have z2 : (t.kind == 2) = false := by simp [k2]
  have R : t.QmQ = false := by
    rw [T.QmR, if_neg k0, if_neg k1, if_neg k2]
  rw [R]
  refine Qe Tryz.func61 rfl Tryz.call61 Tryz.ntmps61 (congrArg Array.toList Tryz.results61) (by simp) ?_
  repeat (first | (((with_reducible refine Qa fun K E hK hE => ?_)); simp -implicitDefEqProofs only [Qd, Qb, Qg, OpW, aop, undef, AS.ev, Qc, Qn, Qr, Qi, Qw, Qns, AV.QmP, QnF, QnG, Qv, Qt, QC, QnH, ↓reduceIte, Qny, Qnz, Nat.reduceAdd, Nat.reduceLT, Nat.reduceEqDiff, Qnx, QnK, Qp, QK, QL, aBin, QT, Qnl, Qnn, QS, T.QmN, ti3, Xq, T.QmN, z0, z1, z2]) | (with_reducible (first | refine Qh fun K hK => ?_ | refine Qq ?_ | refine Ql ?_ | refine QA ?_ | refine Qj ?_ | refine QD ?_)) | ((with_reducible refine hK _ ?_); clear hK) | (refine Qk rfl ?_; simp only [↓reduceIte, Qnp]))
  simp only [QI, Qm, Qu, upd, ↓reduceIte, Qnr, Qnv]; first | refine Qf (htake _ _) (.keep (.v _)) ⟨rfl, rfl⟩ | refine Qf List.take_length (.keep (.v _)) ⟨rfl, rfl⟩
theorem Qlj (n : Nat) (hb : n ≤ 1000000) (ih : ∀ t : T, t.nds ≤ n → t.ok → Pure Tryz.prog 61 [t.av] (.b t.QmQ)) (t : T) (hn : t.nds ≤ n + 1) (ho : t.ok) (k2 : t.kind = 2) :
    Pure Tryz.prog 61 [t.av] (.b t.QmQ) := by
  intro h
  have k0 : ¬ t.kind = 0 := by omega
  have k1 : ¬ t.kind = 1 := by omega
  have z0 : (t.kind == 0) = false := by simp [k2]
  have z1 : (t.kind == 1) = false := by simp [k2]
  have z2 : (t.kind == 2) = true := by simp [k2]
  obtain ⟨o1, o2, o3, o4⟩ := (T.ok_eq t).1 ho
  have hnd := T.QmZ t
  have hll := XZ t.args
  have co := QaN t.name
  have cr : Pure Tryz.prog 64 [.v (.string t.name)] (.b (XV t.name)) := Qb6 t.name (by simp only [maxLen]; omega)
  refine Qe Tryz.func61 rfl Tryz.call61 Tryz.ntmps61 (congrArg Array.toList Tryz.results61) (by simp) ?_
  iterate 15 (try (first | (((with_reducible refine Qa fun K E hK hE => ?_)); simp -implicitDefEqProofs only [Qd, Qb, Qg, OpW, aop, undef, AS.ev, Qc, Qn, Qr, Qi, Qw, Qns, AV.QmP, QnF, QnG, Qv, Qt, QC, QnH, ↓reduceIte, Qny, Qnz, Nat.reduceAdd, Nat.reduceLT, Nat.reduceEqDiff, Qnx, QnK, Qp, QK, QL, aBin, QT, Qnl, Qnn, QS, T.QmN, ti3, Xq, T.QmN, z0, z1, z2]) | (with_reducible (first | refine Qh fun K hK => ?_ | refine Qq ?_)) | ((with_reducible refine hK _ ?_); clear hK) | (refine Qk rfl ?_; simp only [↓reduceIte, Qnp])))
  refine Y0 (fun s => s.tm 3 = .b (opB t.name && decide (t.args.length = 2)) ∧ s.tm 1 = .ptr h.length 0 0 ∧ s.h = h ++ [.cells 24 4 [t.av]]) ?_ ?_
  rotate_left
  · cases ho : opB t.name with
    | false =>
      rw [ho] at co
      repeat (first | ((first | (with_reducible (first | refine Qs fun K E hK hE => ?_ | refine Qo co ?_))); simp -implicitDefEqProofs only [Qd, Qb, Qg, OpW, QO, aop, undef, AS.ev, Qc, Qr, Qi, ↓reduceIte, Nat.reduceLT, Nat.reduceEqDiff, Qnx, Qp, QK, QL, QT, Qnl, Qnm, Qnn, Qnq, Qno, QnA, QnE, Qnp, beq_true, T.QmN, ti9, Xx, T.QmN]) | (with_reducible refine Qj ?_) | ((with_reducible refine hK _ ?_); clear hK))
      exact ⟨rfl, rfl, rfl⟩
    | true =>
      rw [ho] at co
      by_cases hl2 : t.args.length = 2
      · have h2 : ((t.args.length : Int) == 2) = true := by rw [hl2]; rfl
        rw [decide_eq_true hl2]
        repeat (first | ((first | (with_reducible (first | refine Qs fun K E hK hE => ?_ | refine Qo co ?_))); simp -implicitDefEqProofs only [Qd, Qb, Qg, OpW, QO, aop, AS.ev, Qc, Qn, Qi, ↓reduceIte, Nat.reduceLT, Nat.reduceEqDiff, Qnx, Qp, QK, QL, aBin, aLen, QT, Qnl, Qnm, Qnn, Qnq, Qno, QnA, QnE, QS, goInt, Qnt, T.QmN, QH, ti9, ti22, un22, Xx, Xy, T.QmN, QH, h2]) | (with_reducible refine Qj ?_) | ((with_reducible refine hK _ ?_); clear hK))
        exact ⟨rfl, rfl, rfl⟩
      · have h2 : ((t.args.length : Int) == 2) = false := by rw [beq_eq_false_iff_ne]; omega
        rw [decide_eq_false hl2]
        repeat (first | ((first | (with_reducible (first | refine Qs fun K E hK hE => ?_ | refine Qo co ?_))); simp -implicitDefEqProofs only [Qd, Qb, Qg, OpW, QO, aop, AS.ev, Qc, Qn, Qi, ↓reduceIte, Nat.reduceLT, Nat.reduceEqDiff, Qnx, Qp, QK, QL, aBin, aLen, QT, Qnl, Qnm, Qnn, Qnq, Qno, QnA, QnE, QS, goInt, Qnt, T.QmN, QH, ti9, ti22, un22, Xx, Xy, T.QmN, QH, h2]) | (with_reducible refine Qj ?_) | ((with_reducible refine hK _ ?_); clear hK))
        exact ⟨rfl, rfl, rfl⟩
  rintro ⟨tm, hp⟩ ⟨t3, t1, hh⟩
  dsimp only at t3 t1 hh
  subst hh
  obtain ⟨p, ep⟩ : ∃ p, p = (opB t.name && decide (t.args.length = 2)) := ⟨_, rfl⟩
  rw [← ep] at t3
  have RR : t.QmQ = if t.int ≠ 0 ∨ 6 < t.args.length then false else if (!XV t.name && !p) = true then false else X7 t.args := by rw [T.QmR, if_neg k0, if_neg k1, if_pos k2, ← ep]
  refine Y0 (fun s => t.QmQ = X7 t.args ∧ t.args.length ≤ 6 ∧ s.tm 1 = .ptr h.length 0 0 ∧ s.h = h ++ [.cells 24 4 [t.av]]) ?_ ?_
  rotate_left
  · by_cases i0 : t.int = 0
    rotate_left
    · have y0 : (t.int != 0) = true := by simp [i0]
      have R : t.QmQ = false := by rw [RR, if_pos (.inl i0)]
      rw [R]
      repeat (first | (((with_reducible refine Qa fun K E hK hE => ?_)); simp -implicitDefEqProofs only [Qd, Qb, Qg, OpW, aop, undef, AS.ev, Qc, Qn, Qr, Qi, QnI, ↓reduceIte, Nat.reduceLT, Nat.reduceEqDiff, Qnx, Qp, QK, QL, aBin, QT, Qnl, Qnm, Qnn, Qnq, Qno, Xh, beq_false, T.QmN, ti3, XG, T.QmN, t1, y0]) | (with_reducible (first | refine Ql ?_ | refine Qy ?_ | refine QF ?_)) | ((with_reducible refine hK _ ?_); clear hK) | (refine Qk rfl ?_; simp only [↓reduceIte]))
      simp only [QI, Qm, Qu, upd, ↓reduceIte, Qnr, Qnv]; first | refine Qf (htake _ _) (.keep (.v _)) ⟨rfl, rfl⟩ | refine Qf List.take_length (.keep (.v _)) ⟨rfl, rfl⟩
    have y0 : (t.int != 0) = false := by simp [i0]
    cases p with
    | true =>
      have hl2 : t.args.length = 2 := by
        have := ep.symm; rw [Bool.and_eq_true, decide_eq_true_eq] at this; exact this.2
      have R : t.QmQ = X7 t.args := by rw [RR, if_neg (by omega), if_neg (by simp)]
      repeat (first | (((with_reducible refine Qa fun K E hK hE => ?_)); simp -implicitDefEqProofs only [Qd, Qb, Qg, OpW, aop, undef, AS.ev, Qc, Qn, Qr, Qi, QnI, ↓reduceIte, Nat.reduceLT, Nat.reduceEqDiff, Qnx, Qp, QK, QL, aBin, QT, Qnl, Qnm, Qnn, Qnq, Qno, Xh, Xa, Qnt, Qnp, beq_true, T.QmN, ti3, XG, T.QmN, t1, t3, y0]) | (with_reducible (first | refine QA ?_ | refine Qj ?_)) | ((with_reducible refine hK _ ?_); clear hK) | (refine Qk rfl ?_; simp only [↓reduceIte, Qnp]))
      exact ⟨R, by omega, t1, rfl⟩
    | false =>
      cases hr : XV t.name with
      | false =>
        rw [hr] at cr
        have R : t.QmQ = false := by rw [RR]; split; rfl; rw [if_pos (by rw [hr]; rfl)]
        rw [R]
        repeat (first | ((first | (with_reducible (first | refine Qa fun K E hK hE => ?_ | refine Qo cr ?_))); simp -implicitDefEqProofs only [Qd, Qb, Qg, OpW, QO, aop, undef, AS.ev, Qc, Qn, Qr, Qi, QnI, QnJ, ↓reduceIte, Nat.reduceLT, Nat.reduceEqDiff, Qnx, Qp, QK, QL, aBin, QT, Qnl, Qnm, Qnn, Qnq, Qno, QnA, QnE, Xh, Xa, Qnt, Qnp, beq_false, T.QmN, ti3, ti9, XG, Xx, T.QmN, t1, t3, y0]) | (with_reducible (first | refine Ql ?_ | refine Qy ?_ | refine QF ?_)) | ((with_reducible refine hK _ ?_); clear hK) | (refine Qk rfl ?_; simp only [↓reduceIte]))
        simp only [QI, Qm, Qu, upd, ↓reduceIte, Qnr, Qnv]; first | refine Qf (htake _ _) (.keep (.v _)) ⟨rfl, rfl⟩ | refine Qf List.take_length (.keep (.v _)) ⟨rfl, rfl⟩
      | true =>
        rw [hr] at cr
        by_cases a6 : t.args.length > 6
        · have y6 : (t.args.length : Int) > 6 := by omega
          have R : t.QmQ = false := by rw [RR, if_pos (.inr a6)]
          rw [R]
          repeat (first | ((first | (with_reducible (first | refine Qa fun K E hK hE => ?_ | refine Qo cr ?_))); simp -implicitDefEqProofs only [Qd, Qb, Qg, OpW, QO, aop, AS.ev, Qc, Qn, Qr, Qi, QnI, QnJ, ↓reduceIte, Nat.reduceLT, Nat.reduceEqDiff, Qnx, Qp, QK, QL, aBin, aLen, QT, Qnl, Qnm, Qnn, Qnq, Qno, QnA, QnE, Xh, Xg, Xa, goInt, QnR, Qnt, Qnp, T.QmN, QH, ti3, ti9, ti22, un22, XG, Xx, Xy, T.QmN, t1, t3, y0, y6, QH]) | (with_reducible (first | refine Ql ?_ | refine Qy ?_ | refine QF ?_)) | ((with_reducible refine hK _ ?_); clear hK) | (refine Qk rfl ?_; simp only [↓reduceIte]))
          simp only [QI, Qm, Qu, upd, ↓reduceIte, Qnr, Qnv]; first | refine Qf (htake _ _) (.keep (.v _)) ⟨rfl, rfl⟩ | refine Qf List.take_length (.keep (.v _)) ⟨rfl, rfl⟩
        · have y6 : ¬ (t.args.length : Int) > 6 := by omega
          have R : t.QmQ = X7 t.args := by rw [RR, if_neg (by omega), if_neg (by rw [hr]; simp)]
          repeat (first | ((first | (with_reducible (first | refine Qa fun K E hK hE => ?_ | refine Qo cr ?_))); simp -implicitDefEqProofs only [Qd, Qb, Qg, OpW, QO, aop, AS.ev, Qc, Qn, Qi, QnI, QnJ, ↓reduceIte, Nat.reduceLT, Nat.reduceEqDiff, Qnx, Qp, QK, QL, aBin, aLen, QT, Qnl, Qnm, Qnn, Qnq, Qno, QnA, QnE, Xh, Xg, Xa, goInt, QnS, Qnt, Qnp, T.QmN, QH, ti3, ti9, ti22, un22, XG, Xx, Xy, T.QmN, t1, t3, y0, y6, QH]) | (with_reducible (first | refine QA ?_ | refine Qj ?_)) | ((with_reducible refine hK _ ?_); clear hK) | (refine Qk rfl ?_; simp only [↓reduceIte, Qnp]))
          exact ⟨R, by omega, t1, rfl⟩
  rintro ⟨tm, hp⟩ ⟨R, hl6, t1, hh⟩
  dsimp only at t1 hh
  subst hh
  rw [R]
  repeat (first | (((with_reducible refine Qa fun K E hK hE => ?_)); simp -implicitDefEqProofs only [Qd, Qb, Qg, OpW, aop, AS.ev, Qc, Qn, Nat.reduceLT]) | (with_reducible (first | refine Qh fun K hK => ?_ | refine Qq ?_)) | ((with_reducible refine hK _ ?_); clear hK))
  obtain ⟨I, hI⟩ : ∃ I : Nat → AS → Prop, I = fun m' s => ∃ (k : Nat), m' = t.args.length - k ∧ k ≤ t.args.length ∧ X7 t.args = X7 (t.args.drop k) ∧ s.tm 1 = .ptr h.length 0 0 ∧ s.tm 4 = .i k ∧ s.h = h ++ [AB.cells 24 4 [t.av]] := ⟨_, rfl⟩; refine XM I ?_ (m := t.args.length) ?_
  · intro m' s hs; rw [hI] at hs; obtain ⟨tm, hp⟩ := s; dsimp only at hs; obtain ⟨k, rfl, hk, he, t1, t4, rfl⟩ := hs
    by_cases hlt : k < t.args.length
    · have hg := Y3 hlt
      have z9 : (k : Int) < t.args.length := by omega
      have c := ih t.args[k] (by have := QaF hlt; omega) (Qey hlt o4)
      rw [QhF hlt] at he
      cases hr : (t.args[k]).QmQ with
      | true =>
        rw [hr] at c he
        repeat (first | ((first | (with_reducible (first | refine Qa fun K E hK hE => ?_ | refine Qs fun K E hK hE => ?_ | refine Qo c ?_))); simp -implicitDefEqProofs only [Qd, Qb, Qg, OpW, QO, aop, AS.ev, Qc, Qn, Qi, QnI, ↓reduceIte, Qny, Qnz, Nat.reduceAdd, Nat.reduceLT, Nat.reduceEqDiff, Qnx, QnT, Qp, QK, QL, QZ, aBin, aLen, QT, Qnl, Qnm, Qnn, QnA, QnE, Q0, X8, Xa, goInt, QnR, QnY, QnX, T.QmN, T.QmO, QH, ti22, ei22, un22, ti24, Xy, T.QmO, T.QmN, t1, t4, z9, hg, QH]) | (with_reducible (first | refine Qh fun K hK => ?_ | refine Qq ?_ | refine QA ?_ | refine Qj ?_ | refine QD ?_)) | ((with_reducible refine hK _ ?_); clear hK) | (refine Qk rfl ?_; simp only [↓reduceIte, Qnp]))
        refine Yr.mk (m' := t.args.length - (k + 1)) (by omega) ?_
        rw [hI]
        refine ⟨k + 1, rfl, hlt, by rw [he]; rfl, t1, ?_, rfl⟩
        simp only [upd, ↓reduceIte]
        rw [Yd (by omega)]
      | false =>
        rw [hr] at c he
        repeat (first | ((first | (with_reducible (first | refine Qa fun K E hK hE => ?_ | refine Qo c ?_))); simp -implicitDefEqProofs only [Qd, Qb, Qg, OpW, QO, aop, AS.ev, Qc, Qr, Qi, QnJ, ↓reduceIte, Qny, Qnz, Nat.reduceAdd, Nat.reduceLT, Nat.reduceEqDiff, Qnx, QnT, Qp, QK, QL, QZ, aBin, aLen, QT, Qnl, Qnm, Qnn, QnA, QnE, Q0, Xa, goInt, QnR, QnY, QnX, T.QmN, T.QmO, QH, ti22, ei22, un22, ti24, Xy, T.QmO, T.QmN, t1, t4, z9, hg, QH]) | (with_reducible (first | refine Qh fun K hK => ?_ | refine Qq ?_ | refine Ql ?_ | refine QA ?_ | refine Qj ?_ | refine Qy ?_ | refine QF ?_)) | ((with_reducible refine hK _ ?_); clear hK) | (refine Qk rfl ?_; simp only [↓reduceIte]))
        simp only [QI, Qm, Qu, upd, ↓reduceIte, Qnr, Qnv]; first | refine Qf (htake _ _) (.keep (.v _)) ⟨by rw [he]; rfl, rfl⟩ | refine Qf List.take_length (.keep (.v _)) ⟨by rw [he]; rfl, rfl⟩
    · have z9 : ¬ (k : Int) < t.args.length := by omega
      have hkl : k = t.args.length := by omega
      rw [hkl, List.drop_length] at he
      repeat (first | (((with_reducible refine Qa fun K E hK hE => ?_)); simp -implicitDefEqProofs only [Qd, Qb, Qg, OpW, aop, AS.ev, Qc, Qr, Qi, ↓reduceIte, Nat.reduceLT, Nat.reduceEqDiff, Qnx, Qp, QK, QL, aBin, aLen, QT, Qnl, Qnm, Qnn, Q0, goInt, QnS, T.QmN, QH, ti22, un22, Xy, T.QmN, t1, t4, z9, QH]) | (with_reducible (first | refine Qh fun K hK => ?_ | refine Ql ?_ | refine Xj ?_ | refine Qj ?_ | refine Qy ?_ | refine Q9 ?_ | refine QF ?_ | refine Q8 ?_)) | ((with_reducible refine hK _ ?_); clear hK) | (clear hK; (with_reducible refine hK _ ?_); clear hK) | (refine Qk rfl ?_; simp only [↓reduceIte, Qnp]))
      simp only [QI, Qm, Qu, upd, ↓reduceIte, Qnr, Qnv]; first | refine Qf (htake _ _) (.keep (.v _)) ⟨by rw [he]; rfl, rfl⟩ | refine Qf List.take_length (.keep (.v _)) ⟨by rw [he]; rfl, rfl⟩
  · rw [hI]
    exact ⟨0, by omega, Nat.zero_le _, by rw [List.drop_zero], t1, rfl, rfl⟩
theorem Qg3 (n : Nat) : n ≤ 1000000 → ∀ t : T, t.nds ≤ n → t.ok → Pure Tryz.prog 61 [t.av] (.b t.QmQ) := by
  induction n with
  | zero => intro _ t hn _; have := T.QmZ t; omega
  | succ n ih =>
    intro hb t hn ho
    by_cases k0 : t.kind = 0
    · exact QkZ t k0
    by_cases k1 : t.kind = 1
    · exact Qlc t k1
    by_cases k2 : t.kind = 2
    · exact Qlj n (by omega) (ih (by omega)) t hn ho k2
    · exact QiT t k0 k1 k2
theorem Xw (t : T) (hn : t.nds ≤ 1000000) (ho : t.ok) : Pure Tryz.prog 24 [t.av] (.b (t.run 200 20).1) := by
  intro h
  have hs := T.QmT t
  have c1 := Qg3 1000000 (Nat.le_refl _) t hn ho
  have c2 := Qc2 1000000 t (by omega) (Nat.le_refl _)
  have c3 := QfJ 1000000 t (by omega) (Nat.le_refl _)
  rw [T.QmU]
  cases hf : t.QmQ with
  | false =>
    rw [hf] at c1
    refine Qe Tryz.func24 rfl Tryz.call24 Tryz.ntmps24 (congrArg Array.toList Tryz.results24) (by simp) ?_
    repeat (first | ((first | (with_reducible (first | refine Qa fun K E hK hE => ?_ | refine Qo c1 ?_))); simp -implicitDefEqProofs only [Qd, Qb, Qg, OpW, QO, aop, undef, AS.ev, Qc, Qr, Qi, Qw, Qns, AV.QmP, QnF, QnG, Qv, Qt, QC, QnH, ↓reduceIte, Qny, Qnz, Nat.reduceAdd, Nat.reduceLT, Nat.reduceEqDiff, Qnx, QnT, QK, QL, QT, Qnl, Qnm, Qnn, Qnq, Qno, QnA, QnE, Qnp, beq_true, T.QmN, T.QmO, ti24, T.QmO, T.QmN]) | (with_reducible refine Ql ?_) | ((with_reducible refine hK _ ?_); clear hK))
    simp only [QI, Qm, Qu, upd, ↓reduceIte, Qnr, Qnv]; first | refine Qf (htake _ _) (.keep (.v _)) ⟨rfl, rfl⟩ | refine Qf List.take_length (.keep (.v _)) ⟨rfl, rfl⟩
  | true =>
    rw [hf] at c1
    by_cases q1 : t.size ≤ 200
    · have z1 : (t.size : Int) ≤ 200 := by omega
      by_cases q2 : t.dep ≤ 20
      · have z2 : (t.dep : Int) ≤ 20 := by omega
        rw [decide_eq_true q1, decide_eq_true q2]
        refine Qe Tryz.func24 rfl Tryz.call24 Tryz.ntmps24 (congrArg Array.toList Tryz.results24) (by simp) ?_
        repeat (first | ((first | (with_reducible (first | refine Qa fun K E hK hE => ?_ | refine Qo c1 ?_ | refine Qo c2 ?_ | refine Qo c3 ?_))); simp -implicitDefEqProofs only [Qd, Qb, Qg, OpW, QO, aop, undef, AS.ev, Qc, Qn, Qr, Qi, Qw, Qns, AV.QmP, QnF, QnG, Qv, Qt, QC, QnH, ↓reduceIte, Qny, Qnz, Nat.reduceAdd, Nat.reduceLT, Nat.reduceEqDiff, Qnx, QnT, QK, QL, aBin, QT, Qnl, Qnm, Qnn, Qnq, Qno, QnA, QnE, Xe, QnR, Qnt, T.QmN, T.QmO, ti24, T.QmO, T.QmN, z1, z2]) | (with_reducible refine Ql ?_) | ((with_reducible refine hK _ ?_); clear hK))
        simp only [QI, Qm, Qu, upd, ↓reduceIte, Qnr, Qnv]; first | refine Qf (htake _ _) (.keep (.v _)) ⟨rfl, rfl⟩ | refine Qf List.take_length (.keep (.v _)) ⟨rfl, rfl⟩
      · have z2 : ¬ (t.dep : Int) ≤ 20 := by omega
        rw [decide_eq_true q1, decide_eq_false q2]
        refine Qe Tryz.func24 rfl Tryz.call24 Tryz.ntmps24 (congrArg Array.toList Tryz.results24) (by simp) ?_
        repeat (first | ((first | (with_reducible (first | refine Qa fun K E hK hE => ?_ | refine Qo c1 ?_ | refine Qo c2 ?_ | refine Qo c3 ?_))); simp -implicitDefEqProofs only [Qd, Qb, Qg, OpW, QO, aop, undef, AS.ev, Qc, Qn, Qr, Qi, Qw, Qns, AV.QmP, QnF, QnG, Qv, Qt, QC, QnH, ↓reduceIte, Qny, Qnz, Nat.reduceAdd, Nat.reduceLT, Nat.reduceEqDiff, Qnx, QnT, QK, QL, aBin, QT, Qnl, Qnm, Qnn, Qnq, Qno, QnA, QnE, Xe, QnR, QnS, Qnt, T.QmN, T.QmO, ti24, T.QmO, T.QmN, z1, z2]) | (with_reducible refine Ql ?_) | ((with_reducible refine hK _ ?_); clear hK))
        simp only [QI, Qm, Qu, upd, ↓reduceIte, Qnr, Qnv]; first | refine Qf (htake _ _) (.keep (.v _)) ⟨rfl, rfl⟩ | refine Qf List.take_length (.keep (.v _)) ⟨rfl, rfl⟩
    · have z1 : ¬ (t.size : Int) ≤ 200 := by omega
      rw [decide_eq_false q1]
      refine Qe Tryz.func24 rfl Tryz.call24 Tryz.ntmps24 (congrArg Array.toList Tryz.results24) (by simp) ?_
      repeat (first | ((first | (with_reducible (first | refine Qa fun K E hK hE => ?_ | refine Qo c1 ?_ | refine Qo c2 ?_))); simp -implicitDefEqProofs only [Qd, Qb, Qg, OpW, QO, aop, undef, AS.ev, Qc, Qn, Qr, Qi, Qw, Qns, AV.QmP, QnF, QnG, Qv, Qt, QC, QnH, ↓reduceIte, Qny, Qnz, Nat.reduceAdd, Nat.reduceLT, Nat.reduceEqDiff, Qnx, QnT, QK, QL, aBin, QT, Qnl, Qnm, Qnn, Qnq, Qno, QnA, QnE, Xe, QnS, Qnt, Qnp, beq_true, T.QmN, T.QmO, ti24, T.QmO, T.QmN, z1]) | (with_reducible refine Ql ?_) | ((with_reducible refine hK _ ?_); clear hK))
      simp only [QI, Qm, Qu, upd, ↓reduceIte, Qnr, Qnv]; first | refine Qf (htake _ _) (.keep (.v _)) ⟨rfl, rfl⟩ | refine Qf List.take_length (.keep (.v _)) ⟨rfl, rfl⟩
theorem Qah (l : List T) (hn : ndsL l ≤ 1000000) (ho : oks l) : Pure Tryz.prog 65 [.sl 4 (avs l) none] (.b (runL l 200 20).1) := by
  intro h
  have hll := XZ l
  rw [← Qkr]
  refine Qe Tryz.func65 rfl Tryz.call65 Tryz.ntmps65 (congrArg Array.toList Tryz.results65) (by simp) ?_
  repeat (first | (((with_reducible refine Qa fun K E hK hE => ?_)); simp -implicitDefEqProofs only [Qd, Qb, Qg, OpW, aop, AS.ev, Qc, Qn, Qr, Nat.reduceLT]) | (with_reducible (first | refine Qh fun K hK => ?_ | refine Qq ?_)) | ((with_reducible refine hK _ ?_); clear hK))
  obtain ⟨I, hI⟩ : ∃ I : Nat → AS → Prop, I = fun m' s => ∃ (k n : Nat), m' = l.length - k ∧ k ≤ l.length ∧ n + sizes (l.drop k) ≤ 1000000 ∧ rargs l 0 = rargs (l.drop k) n ∧ s.tm 0 = .sl 4 (avs l) none ∧ s.tm 3 = .i n ∧ s.tm 4 = .i k ∧ s.h = h := ⟨_, rfl⟩; refine XM I ?_ (m := l.length) ?_
  · intro m' s hs; rw [hI] at hs; obtain ⟨tm, hp⟩ := s; dsimp only at hs; obtain ⟨k, n, rfl, hk, hs, he, t0, t3, t4, rfl⟩ := hs
    by_cases hlt : k < l.length
    · have hg := Y3 hlt
      have z9 : (k : Int) < l.length := by omega
      have hnk : (l[k]).nds ≤ 1000000 := by have := QaF hlt; omega
      have c := Xw l[k] hnk (Qey hlt ho)
      have c2 := Qc2 1000000 l[k] (by have := T.QmT l[k]; omega) (Nat.le_refl _)
      rw [List.drop_eq_getElem_cons hlt, rargs] at he
      rw [List.drop_eq_getElem_cons hlt, sizes] at hs
      have hw : IntKind.i64.wrap ((n : Int) + ((l[k]).size : Nat)) = ((n + (l[k]).size : Nat) : Int) := by rw [XW (by omega)]; omega
      cases hr : ((l[k]).run 200 20).1 with
      | true =>
        rw [hr] at c he
        repeat (first | ((first | (with_reducible (first | refine Qa fun K E hK hE => ?_ | refine Qs fun K E hK hE => ?_ | refine Qo c ?_ | refine Qo c2 ?_))); simp -implicitDefEqProofs only [Qd, Qb, Qg, OpW, QO, aop, AS.ev, Qc, Qn, Qi, QnI, ↓reduceIte, Qny, Qnz, Nat.reduceAdd, Nat.reduceLT, Nat.reduceEqDiff, Qnx, QnT, QK, QL, QZ, aBin, aLen, Qnn, QnA, QnE, Q0, X8, Xa, goInt, QnR, QnY, QnX, T.QmN, T.QmO, QH, ei22, un22, ti24, t0, t3, t4, z9, hg, QH, hw]) | (with_reducible (first | refine Qh fun K hK => ?_ | refine Qq ?_ | refine QA ?_ | refine Qj ?_ | refine QD ?_)) | ((with_reducible refine hK _ ?_); clear hK) | (refine Qk rfl ?_; simp only [↓reduceIte, Qnp]))
        refine Yr.mk (m' := l.length - (k + 1)) (by omega) ?_
        rw [hI]
        refine ⟨k + 1, n + (l[k]).size, rfl, hlt, by omega, by rw [he]; rfl, t0, rfl, ?_, rfl⟩
        simp only [upd, ↓reduceIte]
        rw [Yd (by omega)]
      | false =>
        rw [hr] at c he
        repeat (first | ((first | (with_reducible (first | refine Qa fun K E hK hE => ?_ | refine Qo c ?_))); simp -implicitDefEqProofs only [Qd, Qb, Qg, OpW, QO, aop, AS.ev, Qc, Qr, Qi, QnJ, ↓reduceIte, Qny, Qnz, Nat.reduceAdd, Nat.reduceLT, Nat.reduceEqDiff, Qnx, QnT, QK, QL, QZ, aBin, aLen, Qnn, QnA, QnE, Q0, Xa, goInt, QnR, QnY, QnX, T.QmN, T.QmO, QH, ei22, un22, ti24, t0, t4, z9, hg, QH]) | (with_reducible (first | refine Qh fun K hK => ?_ | refine Qq ?_ | refine Ql ?_ | refine QA ?_ | refine Qj ?_ | refine Qy ?_ | refine QF ?_)) | ((with_reducible refine hK _ ?_); clear hK) | (refine Qk rfl ?_; simp only [↓reduceIte]))
        simp only [QI, Qm, Qu, upd, ↓reduceIte, Qnr, Qnv]
        exact Qf (QhX _) (.keep (.v _)) ⟨by rw [he]; rfl, rfl⟩
    · have z9 : ¬ (k : Int) < l.length := by omega
      have hkl : k = l.length := by omega
      rw [hkl, List.drop_length, rargs] at he
      by_cases q : n ≤ 200
      · have z1 : (n : Int) ≤ 200 := by omega
        repeat (first | (((with_reducible refine Qa fun K E hK hE => ?_)); simp -implicitDefEqProofs only [Qd, Qb, Qg, OpW, aop, AS.ev, Qc, Qn, Qi, ↓reduceIte, Nat.reduceLT, Nat.reduceEqDiff, aBin, aLen, Qnn, Q0, Xe, goInt, QnR, QnS, QH, un22, t0, t3, t4, z9, z1, QH]) | (with_reducible (first | refine Qh fun K hK => ?_ | refine Ql ?_ | refine Xj ?_ | refine Qj ?_ | refine Q9 ?_ | refine Q8 ?_)) | ((with_reducible refine hK _ ?_); clear hK) | (clear hK; (with_reducible refine hK _ ?_); clear hK) | (refine Qk rfl ?_; simp only [↓reduceIte, Qnp]))
        simp only [QI, Qm, Qu, upd, ↓reduceIte, Qnr, Qnv]
        exact Qf (QhX _) (.keep (.v _)) ⟨by rw [he, decide_eq_true q], rfl⟩
      · have z1 : ¬ (n : Int) ≤ 200 := by omega
        repeat (first | (((with_reducible refine Qa fun K E hK hE => ?_)); simp -implicitDefEqProofs only [Qd, Qb, Qg, OpW, aop, AS.ev, Qc, Qn, Qi, ↓reduceIte, Nat.reduceLT, Nat.reduceEqDiff, aBin, aLen, Qnn, Q0, Xe, goInt, QnS, QH, un22, t0, t3, t4, z9, z1, QH]) | (with_reducible (first | refine Qh fun K hK => ?_ | refine Ql ?_ | refine Xj ?_ | refine Qj ?_ | refine Q9 ?_ | refine Q8 ?_)) | ((with_reducible refine hK _ ?_); clear hK) | (clear hK; (with_reducible refine hK _ ?_); clear hK) | (refine Qk rfl ?_; simp only [↓reduceIte, Qnp]))
        simp only [QI, Qm, Qu, upd, ↓reduceIte, Qnr, Qnv]
        exact Qf (QhX _) (.keep (.v _)) ⟨by rw [he, decide_eq_false q], rfl⟩
  · rw [hI]
    exact ⟨0, 0, by omega, Nat.zero_le _, by have := Qa0 l; simp only [QnC]; omega, by rw [List.drop_zero], rfl, rfl, rfl, rfl⟩
theorem Zf (g : G) (hn : ndsL g.args ≤ 1000000) (ho : g.ok) : Pure Tryz.prog 27 [g.atom] (.b (Q3 g)) := by
  intro h
  obtain ⟨o1, o2, o3⟩ := ho
  have cr : Pure Tryz.prog 64 [.v (.string g.name)] (.b (XV g.name)) := Qb6 g.name (by simp only [maxLen]; omega)
  have ca := Qah g.args hn o3
  cases hr : XV g.name with
  | false =>
    rw [hr] at cr
    refine Qe Tryz.func27 rfl Tryz.call27 Tryz.ntmps27 (congrArg Array.toList Tryz.results27) (by simp) ?_
    repeat (first | ((first | (with_reducible (first | refine Qa fun K E hK hE => ?_ | refine Qo cr ?_))); simp -implicitDefEqProofs only [Qd, Qb, Qg, OpW, QO, aop, undef, AS.ev, Qc, Qr, Qi, Qw, Qns, AV.QmP, QnF, QnG, Qt, QC, QnH, ↓reduceIte, Qny, Qnz, Nat.reduceAdd, Nat.reduceLT, Nat.reduceEqDiff, Qnx, QnK, Qp, QK, QL, QT, Qnl, Qnm, Qnn, Qnq, Qno, QnA, QnE, Qnp, beq_true, ti9, QbF, Xm]) | (with_reducible refine Ql ?_) | ((with_reducible refine hK _ ?_); clear hK))
    simp only [QI, Qm, Qu, upd, ↓reduceIte, Qnr, Qnv]; first | refine Qf (htake _ _) (.keep (.v _)) ⟨by rw [Q3, hr]; rfl, rfl⟩ | refine Qf List.take_length (.keep (.v _)) ⟨by rw [Q3, hr]; rfl, rfl⟩
  | true =>
    rw [hr] at cr
    by_cases q : g.args.length ≤ 6
    · have z : (g.args.length : Int) ≤ 6 := by omega
      refine Qe Tryz.func27 rfl Tryz.call27 Tryz.ntmps27 (congrArg Array.toList Tryz.results27) (by simp) ?_
      repeat (first | ((first | (with_reducible (first | refine Qa fun K E hK hE => ?_ | refine Qo cr ?_ | refine Qo ca ?_))); simp -implicitDefEqProofs only [Qd, Qb, Qg, OpW, QO, aop, undef, AS.ev, Qc, Qn, Qr, Qi, Qw, Qns, AV.QmP, QnF, QnG, Qt, QC, QnH, ↓reduceIte, Qny, Qnz, Nat.reduceAdd, Nat.reduceLT, Nat.reduceEqDiff, Qnx, QnK, Qp, QK, QL, aBin, aLen, QT, Qnl, Qnm, Qnn, Qnq, Qno, QnA, QnE, Xe, goInt, QnR, Qnt, QH, ti9, ti22, un22, QbF, Qc1, Xm, QH, z]) | (with_reducible refine Ql ?_) | ((with_reducible refine hK _ ?_); clear hK))
      simp only [QI, Qm, Qu, upd, ↓reduceIte, Qnr, Qnv]; first | refine Qf (htake _ _) (.keep (.v _)) ⟨by rw [Q3, hr, decide_eq_true q]; rfl, rfl⟩ | refine Qf List.take_length (.keep (.v _)) ⟨by rw [Q3, hr, decide_eq_true q]; rfl, rfl⟩
    · have z : ¬ (g.args.length : Int) ≤ 6 := by omega
      refine Qe Tryz.func27 rfl Tryz.call27 Tryz.ntmps27 (congrArg Array.toList Tryz.results27) (by simp) ?_
      repeat (first | ((first | (with_reducible (first | refine Qa fun K E hK hE => ?_ | refine Qo cr ?_))); simp -implicitDefEqProofs only [Qd, Qb, Qg, OpW, QO, aop, undef, AS.ev, Qc, Qn, Qr, Qi, Qw, Qns, AV.QmP, QnF, QnG, Qt, QC, QnH, ↓reduceIte, Qny, Qnz, Nat.reduceAdd, Nat.reduceLT, Nat.reduceEqDiff, Qnx, QnK, Qp, QK, QL, aBin, aLen, QT, Qnl, Qnm, Qnn, Qnq, Qno, QnA, QnE, Xe, goInt, QnS, Qnt, Qnp, beq_true, QH, ti9, ti22, un22, QbF, Qc1, Xm, QH, z]) | (with_reducible refine Ql ?_) | ((with_reducible refine hK _ ?_); clear hK))
      simp only [QI, Qm, Qu, upd, ↓reduceIte, Qnr, Qnv]; first | refine Qf (htake _ _) (.keep (.v _)) ⟨by rw [Q3, hr, decide_eq_false q]; rfl, rfl⟩ | refine Qf List.take_length (.keep (.v _)) ⟨by rw [Q3, hr, decide_eq_false q]; rfl, rfl⟩
def YJ (op : Int) : Int := if op = 1 ∨ op = 2 then 0 else if op = 11 ∨ op = 12 then 1 else if 2 < op ∧ op < 11 then 2 else -1
theorem QiR (op : Int) : Pure Tryz.prog 81 [.i op] (.i (YJ op)) := by
  intro h
  by_cases k1 : op = 1
  · have z1 : (op == 1) = true := by simp [k1]
    have R : YJ op = 0 := by simp [YJ, k1]
    rw [R]
    refine Qe Tryz.func81 rfl Tryz.call81 Tryz.ntmps81 (congrArg Array.toList Tryz.results81) (by simp) ?_
    repeat (first | (((with_reducible refine Qa fun K E hK hE => ?_)); simp -implicitDefEqProofs only [Qd, Qb, Qg, OpW, aop, undef, AS.ev, Qc, Qn, Qr, Qi, Qw, Qns, QnI, ↓reduceIte, Nat.reduceLT, Nat.reduceEqDiff, aBin, Qnl, Qnm, Qnn, Qnq, Qno, QS, beq_false, z1]) | (with_reducible (first | refine Qh fun K hK => ?_ | refine Qq ?_ | refine Ql ?_ | refine Qy ?_ | refine QF ?_)) | ((with_reducible refine hK _ ?_); clear hK) | (refine Qk rfl ?_; simp only [↓reduceIte]))
    simp only [QI, Qm, Qu, upd, ↓reduceIte, Qnr, Qnv]; first | refine Qf (htake _ _) (.keep (.v _)) ⟨rfl, rfl⟩ | refine Qf List.take_length (.keep (.v _)) ⟨rfl, rfl⟩
  have z1 : (op == 1) = false := by simp [k1]
  by_cases k2 : op = 2
  · have z2 : (op == 2) = true := by simp [k2]
    have R : YJ op = 0 := by simp [YJ, k2]
    rw [R]
    refine Qe Tryz.func81 rfl Tryz.call81 Tryz.ntmps81 (congrArg Array.toList Tryz.results81) (by simp) ?_
    repeat (first | (((with_reducible refine Qa fun K E hK hE => ?_)); simp -implicitDefEqProofs only [Qd, Qb, Qg, OpW, aop, undef, AS.ev, Qc, Qn, Qi, Qw, Qns, ↓reduceIte, Nat.reduceLT, Nat.reduceEqDiff, aBin, Qnl, Qnm, Qnn, Qnq, Qno, QS, Qnt, Qnp, z1, z2]) | (with_reducible (first | refine Qh fun K hK => ?_ | refine Qq ?_ | refine Ql ?_ | refine Qy ?_ | refine QF ?_)) | ((with_reducible refine hK _ ?_); clear hK) | (refine Qk rfl ?_; simp only [↓reduceIte]))
    simp only [QI, Qm, Qu, upd, ↓reduceIte, Qnr, Qnv]; first | refine Qf (htake _ _) (.keep (.v _)) ⟨rfl, rfl⟩ | refine Qf List.take_length (.keep (.v _)) ⟨rfl, rfl⟩
  have z2 : (op == 2) = false := by simp [k2]
  by_cases k11 : op = 11
  · have z11 : (op == 11) = true := by simp [k11]
    have R : YJ op = 1 := by simp [YJ, k11]
    rw [R]
    refine Qe Tryz.func81 rfl Tryz.call81 Tryz.ntmps81 (congrArg Array.toList Tryz.results81) (by simp) ?_
    repeat (first | (((with_reducible refine Qa fun K E hK hE => ?_)); simp -implicitDefEqProofs only [Qd, Qb, Qg, OpW, aop, undef, AS.ev, Qc, Qn, Qr, Qi, Qw, Qns, QnI, ↓reduceIte, Nat.reduceLT, Nat.reduceEqDiff, aBin, Qnl, Qnm, Qnn, Qnq, Qno, QS, Qnt, Qnp, beq_false, z1, z2, z11]) | (with_reducible (first | refine Qh fun K hK => ?_ | refine Qq ?_ | refine Ql ?_ | refine Qy ?_ | refine QF ?_)) | ((with_reducible refine hK _ ?_); clear hK) | (refine Qk rfl ?_; simp only [↓reduceIte, Qnp]))
    simp only [QI, Qm, Qu, upd, ↓reduceIte, Qnr, Qnv]; first | refine Qf (htake _ _) (.keep (.v _)) ⟨rfl, rfl⟩ | refine Qf List.take_length (.keep (.v _)) ⟨rfl, rfl⟩
  have z11 : (op == 11) = false := by simp [k11]
  by_cases k12 : op = 12
  · have z12 : (op == 12) = true := by simp [k12]
    have R : YJ op = 1 := by simp [YJ, k12]
    rw [R]
    refine Qe Tryz.func81 rfl Tryz.call81 Tryz.ntmps81 (congrArg Array.toList Tryz.results81) (by simp) ?_
    repeat (first | (((with_reducible refine Qa fun K E hK hE => ?_)); simp -implicitDefEqProofs only [Qd, Qb, Qg, OpW, aop, undef, AS.ev, Qc, Qn, Qi, Qw, Qns, ↓reduceIte, Nat.reduceLT, Nat.reduceEqDiff, aBin, Qnl, Qnm, Qnn, Qnq, Qno, QS, Qnt, Qnp, z1, z2, z11, z12]) | (with_reducible (first | refine Qh fun K hK => ?_ | refine Qq ?_ | refine Ql ?_ | refine Qy ?_ | refine QF ?_)) | ((with_reducible refine hK _ ?_); clear hK) | (refine Qk rfl ?_; simp only [↓reduceIte, Qnp]))
    simp only [QI, Qm, Qu, upd, ↓reduceIte, Qnr, Qnv]; first | refine Qf (htake _ _) (.keep (.v _)) ⟨rfl, rfl⟩ | refine Qf List.take_length (.keep (.v _)) ⟨rfl, rfl⟩
  have z12 : (op == 12) = false := by simp [k12]
  by_cases g1 : op > 2
  · by_cases g2 : op < 11
    · have R : YJ op = 2 := by rw [YJ, if_neg (by omega), if_neg (by omega), if_pos (by omega)]
      rw [R]
      refine Qe Tryz.func81 rfl Tryz.call81 Tryz.ntmps81 (congrArg Array.toList Tryz.results81) (by simp) ?_
      repeat (first | (((with_reducible refine Qa fun K E hK hE => ?_)); simp -implicitDefEqProofs only [Qd, Qb, Qg, OpW, aop, undef, AS.ev, Qc, Qn, Qi, Qw, Qns, ↓reduceIte, Nat.reduceLT, Nat.reduceEqDiff, aBin, Qnl, Qnm, Qnn, Qnq, Qno, QS, Q0, Xg, QnR, Qnt, Qnp, z1, z2, z11, z12, g1, g2]) | (with_reducible (first | refine Qh fun K hK => ?_ | refine Qq ?_ | refine Ql ?_ | refine Qy ?_ | refine QF ?_)) | ((with_reducible refine hK _ ?_); clear hK) | (refine Qk rfl ?_; simp only [↓reduceIte, Qnp]))
      simp only [QI, Qm, Qu, upd, ↓reduceIte, Qnr, Qnv]; first | refine Qf (htake _ _) (.keep (.v _)) ⟨rfl, rfl⟩ | refine Qf List.take_length (.keep (.v _)) ⟨rfl, rfl⟩
    · have R : YJ op = -1 := by rw [YJ, if_neg (by omega), if_neg (by omega), if_neg (by omega)]
      rw [R]
      refine Qe Tryz.func81 rfl Tryz.call81 Tryz.ntmps81 (congrArg Array.toList Tryz.results81) (by simp) ?_
      repeat (first | (((with_reducible refine Qa fun K E hK hE => ?_)); simp -implicitDefEqProofs only [Qd, Qb, Qg, OpW, aop, undef, AS.ev, Qc, Qn, Qi, Qw, Qns, ↓reduceIte, Nat.reduceLT, Nat.reduceEqDiff, aBin, Qnl, Qnm, Qnn, Qnq, Qno, QS, Q0, Xg, QnR, QnS, Qnt, Qnp, z1, z2, z11, z12, g1, g2]) | (with_reducible (first | refine Qh fun K hK => ?_ | refine Qq ?_ | refine Ql ?_ | refine QA ?_ | refine Qj ?_ | refine QD ?_)) | ((with_reducible refine hK _ ?_); clear hK) | (refine Qk rfl ?_; simp only [↓reduceIte, Qnp]))
      simp only [QI, Qm, Qu, upd, ↓reduceIte, Qnr, Qnv]; first | refine Qf (htake _ _) (.keep (.v _)) ⟨rfl, rfl⟩ | refine Qf List.take_length (.keep (.v _)) ⟨rfl, rfl⟩
  · have R : YJ op = -1 := by rw [YJ, if_neg (by omega), if_neg (by omega), if_neg (by omega)]
    rw [R]
    refine Qe Tryz.func81 rfl Tryz.call81 Tryz.ntmps81 (congrArg Array.toList Tryz.results81) (by simp) ?_
    repeat (first | (((with_reducible refine Qa fun K E hK hE => ?_)); simp -implicitDefEqProofs only [Qd, Qb, Qg, OpW, aop, undef, AS.ev, Qc, Qn, Qr, Qi, Qw, Qns, ↓reduceIte, Nat.reduceLT, Nat.reduceEqDiff, aBin, Qnl, Qnm, Qnn, Qnq, Qno, QS, Xg, QnS, Qnt, Qnp, beq_true, z1, z2, z11, z12, g1]) | (with_reducible (first | refine Qh fun K hK => ?_ | refine Qq ?_ | refine Ql ?_ | refine QA ?_ | refine Qj ?_ | refine QD ?_)) | ((with_reducible refine hK _ ?_); clear hK) | (refine Qk rfl ?_; simp only [↓reduceIte, Qnp]))
    simp only [QI, Qm, Qu, upd, ↓reduceIte, Qnr, Qnv]; first | refine Qf (htake _ _) (.keep (.v _)) ⟨rfl, rfl⟩ | refine Qf List.take_length (.keep (.v _)) ⟨rfl, rfl⟩
theorem QiB (op : Int) (n : Nat) : decide (YJ op = (n : Int)) = (decide (0 < op ∧ op ≤ 12) && decide ((n : Int) = ZB op)) := by
    rw [Qew]
    apply decide_eq_decide.2
    rw [YJ, ZB]
    by_cases h1 : op = 1 ∨ op = 2
    · rw [if_pos h1, if_pos h1]; omega
    rw [if_neg h1, if_neg h1]
    by_cases h2 : op = 11 ∨ op = 12
    · rw [if_pos h2, if_pos h2]; omega
    rw [if_neg h2, if_neg h2]
    split <;> omega
theorem QcH (g : G) (hn : ndsL g.args ≤ 1000000) (ho : g.ok) : Pure Tryz.prog 42 [g.goal] (.b (Xn g)) := by
    intro h
    by_cases k0 : g.op = 0
    · have z0 : (g.op == 0) = true := by simp [k0]
      have c := Zf ⟨0, g.name, g.args⟩ hn ⟨by show i64 0; unfold i64; omega, ho.2.1, ho.2.2⟩
      rw [show G.atom ⟨0, g.name, g.args⟩ = AV.agg [.v (.string g.name), .sl 4 (avs g.args) none] from rfl] at c
      rw [Xn, if_pos k0]
      refine Qe Tryz.func42 rfl Tryz.call42 Tryz.ntmps42 (congrArg Array.toList Tryz.results42) (by simp) ?_
      repeat (first | ((first | (with_reducible (first | refine Qa fun K E hK hE => ?_ | refine Qo c ?_))); simp -implicitDefEqProofs only [Qd, Qb, Qg, OpW, QO, aop, undef, AS.ev, Qc, Qn, Qr, Qi, Qw, Qns, AV.QmP, QB, QU, Yf, QJ, QnF, QnG, Qv, Qt, QM, QC, QnH, ↓reduceIte, Qny, Qnz, Nat.reduceAdd, Nat.reduceLT, Nat.reduceLeDiff, Nat.reduceEqDiff, Qnx, QnK, QnT, Qp, QK, QL, aBin, X4, Yj, QT, Qnl, Qnm, Qnn, QnA, QnE, QnN, QnM, QnO, Qnw, QnD, Qnu, QnC, QS, ti3, ti9, ti22, Yq, QaO, Zq, zi34, sp34, Q7, z0]) | (with_reducible (first | refine Qh fun K hK => ?_ | refine Ql ?_ | refine Qy ?_)) | ((with_reducible refine hK _ ?_); clear hK) | (refine Qk rfl ?_; simp only [↓reduceIte]))
      simp only [QI, Qm, Qu, upd, ↓reduceIte, Qnr, Qnv]; first | refine Qf (htake _ _) (.keep (.v _)) ⟨rfl, rfl⟩ | refine Qf List.take_length (.keep (.v _)) ⟨rfl, rfl⟩
    have z0 : (g.op == 0) = false := by simp [k0]
    have ca := Qah g.args hn ho.2.2
    have cy := QiR g.op
    have key := QiB g.op g.args.length
    have R : Xn g = (YU g.name && (decide (YJ g.op = (g.args.length : Int)) && (runL g.args 200 20).1)) := by
      rw [Xn, if_neg k0, key]
      cases YU g.name <;> cases decide (0 < g.op ∧ g.op ≤ 12) <;> simp
    rw [R]
    cases c3 : YU g.name with
    | false =>
      have c3' : (g.name.toList == ({ data := #[] } : ByteArray).toList) = false := c3
      refine Qe Tryz.func42 rfl Tryz.call42 Tryz.ntmps42 (congrArg Array.toList Tryz.results42) (by simp) ?_
      repeat (first | ((first | (with_reducible refine Qa fun K E hK hE => ?_) | (refine QR (id := 3) [(0, 0), (1, 0), (2, 0), (3, 0), (4, 0), (5, 0), (6, 1), (7, 0), (8, 0), (9, 0), (10, 0), (11, 0), (12, 0), (13, 0), (14, 0), (15, 1), (16, 0), (17, 0)] mixed (by kernel_rfl) fun K hK => ?_)); simp -implicitDefEqProofs only [Q4, Q1, Xb, Qd, Qb, Qg, OpW, aop, undef, AS.ev, Qc, Qn, Qr, QG, Qi, Qw, Qns, AV.QmP, QnF, QnG, Qv, Qt, QC, QnH, ↓reduceIte, Qny, Qnz, Nat.reduceAdd, Nat.reduceLT, Nat.reduceEqDiff, Qnx, QnK, Qp, QK, QL, aBin, QT, Qnl, Qnm, Qnn, Qnq, Qno, QS, QY, Qnp, beq_true, ti3, ti9, Yq, QaO, Q7, z0, c3']) | (with_reducible (first | refine Qh fun K hK => ?_ | refine Ql ?_ | refine QA ?_ | refine Qj ?_)) | ((with_reducible refine hK _ ?_); clear hK) | (refine Qk rfl ?_; simp only [↓reduceIte, Qnp]))
      simp only [QI, Qm, Qu, upd, ↓reduceIte, Qnr, Qnv]; first | refine Qf (htake _ _) (.keep (.v _)) ⟨rfl, rfl⟩ | refine Qf List.take_length (.keep (.v _)) ⟨rfl, rfl⟩
    | true =>
      have c3' : (g.name.toList == ({ data := #[] } : ByteArray).toList) = true := c3
      by_cases q : YJ g.op = (g.args.length : Int)
      · have q' : (YJ g.op == (g.args.length : Int)) = true := by simp [q]
        rw [decide_eq_true q]
        refine Qe Tryz.func42 rfl Tryz.call42 Tryz.ntmps42 (congrArg Array.toList Tryz.results42) (by simp) ?_
        repeat (first | ((first | (with_reducible (first | refine Qa fun K E hK hE => ?_ | refine QQ ca ?_ | refine QQ cy ?_)) | (refine QR (id := 3) [(0, 0), (1, 0), (2, 0), (3, 0), (4, 0), (5, 0), (6, 1), (7, 0), (8, 0), (9, 0), (10, 0), (11, 0), (12, 0), (13, 0), (14, 0), (15, 1), (16, 0), (17, 0)] mixed (by kernel_rfl) fun K hK => ?_)); simp -implicitDefEqProofs only [Q4, Q1, Xb, Qd, Qb, Qg, OpW, aop, undef, AS.ev, Qc, Qn, Qr, QG, Qi, Qw, Qns, AV.QmP, QnF, QnG, Qv, Qt, QC, QnH, ↓reduceIte, Qny, Qnz, Nat.reduceAdd, Nat.reduceLT, Nat.reduceLeDiff, Nat.reduceEqDiff, Qnx, QnK, Qp, QK, QL, aBin, aLen, QT, Qnl, Qnm, Qnn, Qnq, Qno, QnA, QnE, QS, QY, goInt, Qnt, QH, ti3, ti9, ti22, un22, Yq, QaO, Zq, Q7, z0, c3', q', QH]) | (with_reducible (first | refine Qh fun K hK => ?_ | refine Ql ?_ | refine QA ?_ | refine Qj ?_)) | ((with_reducible refine hK _ ?_); clear hK) | (refine Qk rfl ?_; simp only [↓reduceIte, Qnp]))
        simp only [QI, Qm, Qu, upd, ↓reduceIte, Qnr, Qnv]; first | refine Qf (htake _ _) (.keep (.v _)) ⟨rfl, rfl⟩ | refine Qf List.take_length (.keep (.v _)) ⟨rfl, rfl⟩
      · have q' : (YJ g.op == (g.args.length : Int)) = false := by simp [q]
        rw [decide_eq_false q]
        refine Qe Tryz.func42 rfl Tryz.call42 Tryz.ntmps42 (congrArg Array.toList Tryz.results42) (by simp) ?_
        repeat (first | ((first | (with_reducible (first | refine Qa fun K E hK hE => ?_ | refine QQ cy ?_)) | (refine QR (id := 3) [(0, 0), (1, 0), (2, 0), (3, 0), (4, 0), (5, 0), (6, 1), (7, 0), (8, 0), (9, 0), (10, 0), (11, 0), (12, 0), (13, 0), (14, 0), (15, 1), (16, 0), (17, 0)] mixed (by kernel_rfl) fun K hK => ?_)); simp -implicitDefEqProofs only [Q4, Q1, Xb, Qd, Qb, Qg, OpW, aop, undef, AS.ev, Qc, Qn, Qr, QG, Qi, Qw, Qns, AV.QmP, QnF, QnG, Qv, Qt, QC, QnH, ↓reduceIte, Qny, Qnz, Nat.reduceAdd, Nat.reduceLT, Nat.reduceLeDiff, Nat.reduceEqDiff, Qnx, QnK, Qp, QK, QL, aBin, aLen, QT, Qnl, Qnm, Qnn, Qnq, Qno, QnA, QnE, QS, QY, goInt, Qnt, Qnp, beq_true, QH, ti3, ti9, ti22, un22, Yq, QaO, Zq, Q7, z0, c3', q', QH]) | (with_reducible (first | refine Qh fun K hK => ?_ | refine Ql ?_ | refine QA ?_ | refine Qj ?_)) | ((with_reducible refine hK _ ?_); clear hK) | (refine Qk rfl ?_; simp only [↓reduceIte, Qnp]))
        simp only [QI, Qm, Qu, upd, ↓reduceIte, Qnr, Qnv]; first | refine Qf (htake _ _) (.keep (.v _)) ⟨rfl, rfl⟩ | refine Qf List.take_length (.keep (.v _)) ⟨rfl, rfl⟩
end Go.Proofs.YtehjodmnajgdgaaGreatDoor.Ab
set_option maxRecDepth 4000
namespace Go.Proofs.YtehjodmnajgdgaaGreatDoor.Ab
open Go.Proofs
theorem QjW {s : ByteArray} (f : Int) (h : opB s = true) : ¬ QbA f s := by
  simp only [opB, Bool.or_eq_true, beq_iff_eq, Lib.toList_data] at h
  have stop : ∀ c : UInt8, s.data.toList = [c] → ¬ fol ((c.toNat : Nat) : Int) → ¬ QbA f s := fun c hl hc hw => by
    have := hw.2.2.2 0 hw.1
    unfold byteAt at this
    rw [hl] at this
    exact hc this
  rcases h with (((h | h) | h) | h) | h
  · exact stop _ h (by decide)
  · exact stop _ h (by decide)
  · exact stop _ h (by decide)
  · exact stop _ h (by decide)
  · exact stop _ h (by decide)
theorem Qi9 {s : ByteArray} (h : opB s = true) : XV s = false := by
  rw [XV, decide_eq_false (QjW 1 h), Bool.false_and]
theorem QlX {s : ByteArray} (h : opB s = false) : ofB s = 0 := by
  simp only [opB, Bool.or_eq_false_iff] at h
  obtain ⟨⟨⟨⟨h1, h2⟩, h3⟩, h4⟩, h5⟩ := h
  rw [ofB, h1, h2, h3, h4, h5]; rfl
theorem Qfx {s : ByteArray} (h : opB s = true) : ofB s = if ((s.toList == ({ data := #[43] } : ByteArray).toList) || (s.toList == ({ data := #[45] } : ByteArray).toList)) = true then 1 else 2 := by
  rw [ofB]
  cases h1 : (s.toList == ({ data := #[43] } : ByteArray).toList) || (s.toList == ({ data := #[45] } : ByteArray).toList) with
  | true => rfl
  | false =>
    simp only [opB, h1, Bool.false_or] at h
    rw [if_neg (by simp), if_pos h, if_neg (by simp)]
def T.strI (t : T) : Int := if t.kind ≠ 2 ∨ opB t.name = false then 3 else ofB t.name
theorem Qb5 (t : T) : Pure Tryz.prog 76 [t.av] (.i t.strI) := by
  intro h
  have co := QaN t.name
  by_cases k2 : t.kind = 2
  · have z2 : (t.kind != 2) = false := by simp [k2]
    cases ho : opB t.name with
    | false =>
      rw [ho] at co
      rw [T.strI, if_pos (.inr ho)]
      refine Qe Tryz.func76 rfl Tryz.call76 Tryz.ntmps76 (congrArg Array.toList Tryz.results76) (by simp) ?_
      repeat (first | ((first | (with_reducible (first | refine Qa fun K E hK hE => ?_ | refine Qo co ?_))); simp -implicitDefEqProofs only [Qd, Qb, Qg, OpW, QO, aop, undef, AS.ev, Qc, Qn, Qi, Qw, Qns, AV.QmP, QnF, QnG, Qv, Qt, QC, QnH, QnJ, ↓reduceIte, Qny, Qnz, Nat.reduceAdd, Nat.reduceLT, Nat.reduceEqDiff, Qnx, QnK, Qp, QK, QL, aBin, QT, Qnl, Qnm, Qnn, Qnq, Qno, QnA, QnE, Xh, Xa, Qnt, Qnp, T.QmN, ti3, ti9, Xq, Xx, T.QmN, z2]) | (with_reducible (first | refine Qh fun K hK => ?_ | refine Ql ?_ | refine Qy ?_)) | ((with_reducible refine hK _ ?_); clear hK) | (refine Qk rfl ?_; simp only [↓reduceIte]))
      simp only [QI, Qm, Qu, upd, ↓reduceIte, Qnr, Qnv]; first | refine Qf (htake _ _) (.keep (.v _)) ⟨rfl, rfl⟩ | refine Qf List.take_length (.keep (.v _)) ⟨rfl, rfl⟩
    | true =>
      have e := Qfx ho
      rw [ho] at co
      rw [T.strI, if_neg (by rw [ho]; simp [k2]), e]
      cases b1 : (t.name.toList == ({ data := #[43] } : ByteArray).toList) with
      | true =>
        refine Qe Tryz.func76 rfl Tryz.call76 Tryz.ntmps76 (congrArg Array.toList Tryz.results76) (by simp) ?_
        repeat (first | ((first | (with_reducible (first | refine Qa fun K E hK hE => ?_ | refine Qo co ?_))); simp -implicitDefEqProofs only [Qd, Qb, Qg, OpW, QO, aop, undef, AS.ev, Qc, Qn, Qr, QG, Qi, Qw, Qns, AV.QmP, QnF, QnG, Qv, Qt, QC, QnH, QnI, ↓reduceIte, Qny, Qnz, Nat.reduceAdd, Nat.reduceLT, Nat.reduceEqDiff, Qnx, QnK, Qp, QK, QL, aBin, QT, Qnl, Qnm, Qnn, Qnq, Qno, QnA, QnE, Xh, Xa, QY, Qnt, Qnp, beq_false, T.QmN, ti3, ti9, Xq, Xx, T.QmN, z2, b1]) | (with_reducible (first | refine Qh fun K hK => ?_ | refine Ql ?_ | refine QA ?_ | refine Qj ?_ | refine Qy ?_)) | ((with_reducible refine hK _ ?_); clear hK) | (refine Qk rfl ?_; simp only [↓reduceIte, Qnp]))
        simp only [QI, Qm, Qu, upd, ↓reduceIte, Qnr, Qnv]; first | refine Qf (htake _ _) (.keep (.v _)) ⟨rfl, rfl⟩ | refine Qf List.take_length (.keep (.v _)) ⟨rfl, rfl⟩
      | false =>
        cases b2 : (t.name.toList == ({ data := #[45] } : ByteArray).toList) with
        | true =>
          refine Qe Tryz.func76 rfl Tryz.call76 Tryz.ntmps76 (congrArg Array.toList Tryz.results76) (by simp) ?_
          repeat (first | ((first | (with_reducible (first | refine Qa fun K E hK hE => ?_ | refine Qo co ?_))); simp -implicitDefEqProofs only [Qd, Qb, Qg, OpW, QO, aop, undef, AS.ev, Qc, Qn, QG, Qi, Qw, Qns, AV.QmP, QnF, QnG, Qv, Qt, QC, QnH, QnI, ↓reduceIte, Qny, Qnz, Nat.reduceAdd, Nat.reduceLT, Nat.reduceEqDiff, Qnx, QnK, Qp, QK, QL, aBin, QT, Qnl, Qnm, Qnn, Qnq, Qno, QnA, QnE, Xh, Xa, QY, Qnt, Qnp, T.QmN, ti3, ti9, Xq, Xx, T.QmN, z2, b1, b2]) | (with_reducible (first | refine Qh fun K hK => ?_ | refine Ql ?_ | refine QA ?_ | refine Qj ?_ | refine Qy ?_)) | ((with_reducible refine hK _ ?_); clear hK) | (refine Qk rfl ?_; simp only [↓reduceIte, Qnp]))
          simp only [QI, Qm, Qu, upd, ↓reduceIte, Qnr, Qnv]; first | refine Qf (htake _ _) (.keep (.v _)) ⟨rfl, rfl⟩ | refine Qf List.take_length (.keep (.v _)) ⟨rfl, rfl⟩
        | false =>
          refine Qe Tryz.func76 rfl Tryz.call76 Tryz.ntmps76 (congrArg Array.toList Tryz.results76) (by simp) ?_
          repeat (first | ((first | (with_reducible (first | refine Qa fun K E hK hE => ?_ | refine Qo co ?_))); simp -implicitDefEqProofs only [Qd, Qb, Qg, OpW, QO, aop, undef, AS.ev, Qc, Qn, QG, Qi, Qw, Qns, AV.QmP, QnF, QnG, Qv, Qt, QC, QnH, QnI, ↓reduceIte, Qny, Qnz, Nat.reduceAdd, Nat.reduceLT, Nat.reduceEqDiff, Qnx, QnK, Qp, QK, QL, aBin, QT, Qnl, Qnm, Qnn, Qnq, Qno, QnA, QnE, Xh, Xa, QY, Qnt, Qnp, T.QmN, ti3, ti9, Xq, Xx, T.QmN, z2, b1, b2]) | (with_reducible (first | refine Qh fun K hK => ?_ | refine Ql ?_ | refine QA ?_ | refine Qj ?_)) | ((with_reducible refine hK _ ?_); clear hK) | (refine Qk rfl ?_; simp only [↓reduceIte, Qnp]))
          simp only [QI, Qm, Qu, upd, ↓reduceIte, Qnr, Qnv]; first | refine Qf (htake _ _) (.keep (.v _)) ⟨rfl, rfl⟩ | refine Qf List.take_length (.keep (.v _)) ⟨rfl, rfl⟩
  · have z2 : (t.kind != 2) = true := by simp [k2]
    rw [T.strI, if_pos (.inl k2)]
    refine Qe Tryz.func76 rfl Tryz.call76 Tryz.ntmps76 (congrArg Array.toList Tryz.results76) (by simp) ?_
    repeat (first | (((with_reducible refine Qa fun K E hK hE => ?_)); simp -implicitDefEqProofs only [Qd, Qb, Qg, OpW, aop, undef, AS.ev, Qc, Qn, Qr, Qi, Qw, Qns, AV.QmP, QnF, QnG, Qv, Qt, QC, QnH, QnI, ↓reduceIte, Qny, Qnz, Nat.reduceAdd, Nat.reduceLT, Nat.reduceEqDiff, Qnx, QnK, Qp, QK, QL, aBin, QT, Qnl, Qnm, Qnn, Qnq, Qno, Xh, beq_false, T.QmN, ti3, Xq, T.QmN, z2]) | (with_reducible (first | refine Qh fun K hK => ?_ | refine Ql ?_ | refine Qy ?_)) | ((with_reducible refine hK _ ?_); clear hK) | (refine Qk rfl ?_; simp only [↓reduceIte]))
    simp only [QI, Qm, Qu, upd, ↓reduceIte, Qnr, Qnv]; first | refine Qf (htake _ _) (.keep (.v _)) ⟨rfl, rfl⟩ | refine Qf List.take_length (.keep (.v _)) ⟨rfl, rfl⟩
theorem T.QmW {t : T} (hf : t.QmQ = true) (k2 : t.kind = 2) : t.int = 0 ∧ t.args.length ≤ 6 ∧ (XV t.name = true ∨ opB t.name = true ∧ t.args.length = 2) ∧ X7 t.args = true := by
  rw [T.QmR, if_neg (by omega), if_neg (by omega), if_pos k2] at hf
  split at hf
  · cases hf
  rename_i h1
  split at hf
  · cases hf
  rename_i h2
  refine ⟨by omega, by omega, ?_, hf⟩
  cases hr : XV t.name with
  | true => exact .inl rfl
  | false =>
    refine .inr ?_
    rw [hr] at h2
    cases ho : opB t.name with
    | false => rw [ho] at h2; exact absurd rfl h2
    | true =>
      rw [ho] at h2
      refine ⟨rfl, ?_⟩
      apply Classical.byContradiction
      intro hc
      rw [decide_eq_false hc] at h2
      exact h2 rfl
theorem T.Qm4 {t : T} (hf : t.QmQ = true) : t.strI = if t.oper = 0 then 3 else t.oper := by
  by_cases k2 : t.kind = 2
  · obtain ⟨_, _, hn, _⟩ := T.QmW hf k2
    cases ho : opB t.name with
    | false =>
      have e : t.oper = 0 := by rw [T.oper, QlX ho]; simp
      rw [T.strI, if_pos (.inr ho), e, if_pos rfl]
    | true =>
      have hl : t.args.length = 2 := by
        rcases hn with hn | hn
        · rw [Qi9 ho] at hn; cases hn
        · exact hn.2
      have e : t.oper = ofB t.name := by rw [T.oper, if_neg (by omega)]
      have e2 : ofB t.name ≠ 0 := by rw [Qfx ho]; split <;> decide
      rw [T.strI, if_neg (by rw [ho]; simp [k2]), e, if_neg e2]
  · have e : t.oper = 0 := by rw [T.oper, if_pos (.inl k2)]
    rw [T.strI, if_pos (.inl k2), e, if_pos rfl]
theorem T.Qm1 (t : T) : t.oper = 0 ∨ t.oper = 1 ∨ t.oper = 2 := by
  rw [T.oper]; split
  · exact .inl rfl
  · rw [ofB]; split
    · exact .inr (.inl rfl)
    · split
      · exact .inr (.inr rfl)
      · exact .inl rfl
theorem T.QmS {t : T} (hf : t.QmQ = true) : t.lex ∧ t.txt.size + 4 ≤ 60 * t.size ∧ 0 < t.txt.size := by
  have hr : (t.run t.size t.dep).1 = true := by rw [(T.QmX t t.size t.dep).1, hf, decide_eq_true ⟨Int.le_refl _, Int.le_refl _⟩]; rfl
  obtain ⟨h1, h2, h3, _⟩ := T.Qm3 t t.size t.dep hr
  rw [(T.QmX t t.size t.dep).2 hr] at h2
  exact ⟨h1, by omega, h3⟩
theorem QeK {l : List T} (hf : X7 l = true) : (Yh true (txts l)).size ≤ 60 * sizes l := by
  have hr : (runL l (sizes l) (deps l)).1 = true := by rw [(Qao l (sizes l) (deps l) (by omega) (by omega)).1, hf, decide_eq_true ⟨Int.le_refl _, Int.le_refl _⟩]; rfl
  obtain ⟨_, h2, _⟩ := Qcr l (sizes l) (deps l) hr
  rw [(Qao l (sizes l) (deps l) (by omega) (by omega)).2 hr] at h2
  have := QfS (txts l) true
  omega
theorem Ya : ∀ {l : List T}, X7 l = true → ∀ t ∈ l, t.QmQ = true
  | x :: l, h, t, ht => by
    simp only [X7, Bool.and_eq_true] at h
    rcases List.mem_cons.1 ht with rfl | ht
    · exact h.1
    · exact Ya h.2 t ht
theorem Qeq : ∀ {l : List T} (k : Nat), X7 l = true → X7 (l.take k) = true
  | [], k, h => by simp [X7]
  | x :: l, 0, h => rfl
  | x :: l, k + 1, h => by
    simp only [X7, Bool.and_eq_true, Qnw] at h ⊢
    exact ⟨h.1, Qeq k h.2⟩
theorem Qff (x : ByteArray) : ∀ (l : List ByteArray) (f : Bool), Yh f (l ++ [x]) = Yh f l ++ (if f && l.isEmpty then x else QbD ++ x)
  | [], f => by
    simp only [QnM, Yh, Qn1, Qn4, ByteArray.append_empty]
    rw [show (ByteArray.empty ++ if f = true then x else QbD ++ x) = if f = true then x else QbD ++ x from ByteArray.empty_append]
  | y :: l, f => by
    rw [List.cons_append, Yh, Yh, Qff x l false, ByteArray.append_assoc]
    simp
theorem QhO (a b : List T) : txts (a ++ b) = txts a ++ txts b := by simp only [Qko, List.map_append]
theorem QeZ {l : List T} {k : Nat} (h : k < l.length) : txts (l.take (k + 1)) = txts (l.take k) ++ [(l[k]).txt] := by
  rw [List.take_succ_eq_append_getElem h, QhO]; rfl
def WrP (n : Nat) : Prop := ∀ t : T, t.nds ≤ n → t.QmQ = true → t.ok → Pure Tryz.prog 36 [t.av] (.v (.string t.txt))
theorem Qbe (n : Nat) (ih : WrP n) (hb : n ≤ 1000000) (t : T) (hn : t.nds ≤ n) (hf : t.QmQ = true) (ho : t.ok) (p q : Int) (hp : 0 ≤ p ∧ p ≤ 9) (hq : 0 ≤ q ∧ q ≤ 9) :
    Pure Tryz.prog 77 [t.av, .i p, .i q] (.v (.string (encB (decide (t.strI < p + q)) t.txt))) := by
  intro h
  have c1 := Qb5 t
  have c2 := ih t hn hf ho
  have hw : IntKind.i64.wrap (p + q) = p + q := XW (by omega)
  obtain ⟨_, hs, _⟩ := T.QmS hf
  have hsz := T.QmT t
  have hsa1 := fun xo yo => Xv Tryz.prog 9 xo yo ({ data := #[40] } : ByteArray) t.txt (by have : ({ data := #[40] } : ByteArray).size = 1 := rfl; omega)
  have hsa2 := fun xo yo => Xv Tryz.prog 9 xo yo (({ data := #[40] } : ByteArray) ++ t.txt) ({ data := #[41] } : ByteArray) (by rw [QE]; have : ({ data := #[40] } : ByteArray).size = 1 := rfl; have : ({ data := #[41] } : ByteArray).size = 1 := rfl; omega)
  by_cases z : t.strI < p + q
  · rw [decide_eq_true z, encB, if_pos rfl]
    refine Qe Tryz.func77 rfl Tryz.call77 Tryz.ntmps77 (congrArg Array.toList Tryz.results77) (by simp) ?_
    repeat (first | ((first | (with_reducible (first | refine Qa fun K E hK hE => ?_ | refine Qo c1 ?_ | refine Qo c2 ?_))); simp -implicitDefEqProofs only [Qd, Qb, Qg, OpW, QO, aop, undef, AS.ev, Qc, QG, Qi, Qw, Qns, QnL, AV.QmP, QnF, QnG, Qv, Qt, QC, QnH, ↓reduceIte, Qny, Qnz, Nat.reduceAdd, Nat.reduceLT, Nat.reduceEqDiff, Qnx, QnT, QK, QL, aBin, QT, Qnl, Qnn, QnA, QnE, Q0, X8, QnR, T.QmN, T.QmO, ti24, T.QmO, T.QmN, hw, z, hsa1, hsa2]) | (with_reducible (first | refine Qh fun K hK => ?_ | refine Ql ?_ | refine Qy ?_)) | ((with_reducible refine hK _ ?_); clear hK) | (refine Qk rfl ?_; simp only [↓reduceIte]))
    simp only [QI, Qm, Qu, upd, ↓reduceIte, Qnr, Qnv]; first | refine Qf (htake _ _) (.keep (.v _)) ⟨rfl, rfl⟩ | refine Qf List.take_length (.keep (.v _)) ⟨rfl, rfl⟩
  · rw [decide_eq_false z, encB, if_neg (by simp)]
    refine Qe Tryz.func77 rfl Tryz.call77 Tryz.ntmps77 (congrArg Array.toList Tryz.results77) (by simp) ?_
    repeat (first | ((first | (with_reducible (first | refine Qa fun K E hK hE => ?_ | refine Qo c1 ?_ | refine Qo c2 ?_))); simp -implicitDefEqProofs only [Qd, Qb, Qg, OpW, QO, aop, undef, AS.ev, Qc, QG, Qi, Qw, Qns, QnL, AV.QmP, QnF, QnG, Qv, Qt, QC, QnH, ↓reduceIte, Qny, Qnz, Nat.reduceAdd, Nat.reduceLT, Nat.reduceEqDiff, Qnx, QnT, QK, QL, aBin, QT, Qnl, Qnn, QnA, QnE, Q0, X8, QnS, T.QmN, T.QmO, ti24, T.QmO, T.QmN, hw, z]) | (with_reducible (first | refine Qh fun K hK => ?_ | refine Ql ?_ | refine QA ?_ | refine Qj ?_)) | ((with_reducible refine hK _ ?_); clear hK) | (refine Qk rfl ?_; simp only [↓reduceIte, Qnp]))
    simp only [QI, Qm, Qu, upd, ↓reduceIte, Qnr, Qnv]; first | refine Qf (htake _ _) (.keep (.v _)) ⟨rfl, rfl⟩ | refine Qf List.take_length (.keep (.v _)) ⟨rfl, rfl⟩
theorem QgP (n : Nat) (ih : WrP n) (hb : n ≤ 1000000) (l : List T) (hn : ndsL l ≤ n) (hf : X7 l = true) (ho : oks l) :
    Pure Tryz.prog 82 [.sl 4 (avs l) none] (.v (.string (Yh true (txts l)))) := by
  intro h
  have hll := XZ l
  have hsl := Qa0 l
  refine Qe Tryz.func82 rfl Tryz.call82 Tryz.ntmps82 (congrArg Array.toList Tryz.results82) (by simp) ?_
  repeat (first | (((with_reducible refine Qa fun K E hK hE => ?_)); simp -implicitDefEqProofs only [Qd, Qb, Qg, OpW, aop, AS.ev, Qc, Qn, QG, Nat.reduceLT]) | (with_reducible (first | refine Qh fun K hK => ?_ | refine Qq ?_)) | ((with_reducible refine hK _ ?_); clear hK))
  obtain ⟨I, hI⟩ : ∃ I : Nat → AS → Prop, I = fun m' s => ∃ k : Nat, m' = l.length - k ∧ k ≤ l.length ∧ s.tm 0 = .sl 4 (avs l) none ∧ s.tm 3 = .v (.string (Yh true (txts (l.take k)))) ∧ s.tm 4 = .i k ∧ s.h = h := ⟨_, rfl⟩; refine XM I ?_ (m := l.length) ?_
  · intro m' s hs; rw [hI] at hs; obtain ⟨tm, hp⟩ := s; dsimp only at hs; obtain ⟨k, rfl, hk, t0, t3, t4, rfl⟩ := hs
    by_cases hlt : k < l.length
    · have hg := Y3 hlt
      have z9 : (k : Int) < l.length := by omega
      have hm := List.getElem_mem hlt
      have hfk := Ya hf _ hm
      have hnk : (l[k]).nds ≤ n := Nat.le_trans (QaF hlt) hn
      have c := ih l[k] hnk hfk (Qey hlt ho)
      have hs1 := QeK (Qeq k hf)
      have hs2 := QaC l k
      obtain ⟨_, hs3, _⟩ := T.QmS hfk
      have hs4 := T.QmT l[k]
      have hsc : ({ data := #[44, 32] } : ByteArray).size = 2 := rfl
      have hj : Yh true (txts (l.take (k + 1))) = Yh true (txts (l.take k)) ++ (if (true && (txts (l.take k)).isEmpty) = true then (l[k]).txt else QbD ++ (l[k]).txt) := by
        rw [QeZ hlt, Qff]
      obtain ⟨J, eJ⟩ : ∃ J, J = Yh true (txts (l.take k)) := ⟨_, rfl⟩
      rw [← eJ] at t3 hs1 hj
      have hsa1 := fun xo yo => Xv Tryz.prog 9 xo yo J ({ data := #[44, 32] } : ByteArray) (by omega)
      have hsa2 := fun xo yo => Xv Tryz.prog 9 xo yo (J ++ ({ data := #[44, 32] } : ByteArray)) (l[k]).txt (by rw [QE]; omega)
      have hsa3 := fun xo yo => Xv Tryz.prog 9 xo yo J (l[k]).txt (by omega)
      by_cases k0 : k = 0
      · have z0 : ¬ (k : Int) > 0 := by omega
        have hj' : Yh true (txts (l.take (k + 1))) = J ++ (l[k]).txt := by
          have hem : (txts (l.take k)).isEmpty = true := by rw [k0]; rfl
          rw [hj, hem]; rfl
        repeat (first | ((first | (with_reducible (first | refine Qa fun K E hK hE => ?_ | refine Qs fun K E hK hE => ?_ | refine Qo c ?_))); simp -implicitDefEqProofs only [Qd, Qb, Qg, OpW, QO, aop, AS.ev, Qc, Qn, Qi, ↓reduceIte, Qny, Qnz, Nat.reduceAdd, Nat.reduceLT, Nat.reduceEqDiff, Qnx, QnT, QK, QL, QZ, aBin, aLen, Qnn, QnA, QnE, Q0, Xg, X8, goInt, QnR, QnS, QnY, QnX, T.QmN, T.QmO, QH, ei22, un22, ti24, t0, t3, t4, z9, z0, hg, QH, hsa3]) | (with_reducible (first | refine Qh fun K hK => ?_ | refine Qq ?_ | refine QA ?_ | refine Qj ?_ | refine QD ?_)) | ((with_reducible refine hK _ ?_); clear hK) | (refine Qk rfl ?_; simp only [↓reduceIte, Qnp]))
        refine Yr.mk (m' := l.length - (k + 1)) (by omega) ?_
        rw [hI]
        refine ⟨k + 1, rfl, hlt, t0, ?_, ?_, rfl⟩
        · simp only [upd, ↓reduceIte, Nat.reduceEqDiff]
          rw [hj']
        · simp only [upd, ↓reduceIte]
          rw [Yd (by omega)]
      · have z0 : (k : Int) > 0 := by omega
        have hj' : Yh true (txts (l.take (k + 1))) = (J ++ ({ data := #[44, 32] } : ByteArray)) ++ (l[k]).txt := by
          have hne : (txts (l.take k)).isEmpty = false := by
            cases hh : txts (l.take k) with
            | nil => have := congrArg List.length hh; rw [Qax, List.length_take] at this; simp only [Qnz] at this; omega
            | cons => rfl
          rw [hj, hne, ByteArray.append_assoc]; rfl
        repeat (first | ((first | (with_reducible (first | refine Qa fun K E hK hE => ?_ | refine Qs fun K E hK hE => ?_ | refine Qo c ?_))); simp -implicitDefEqProofs only [Qd, Qb, Qg, OpW, QO, aop, AS.ev, Qc, Qn, QG, Qi, ↓reduceIte, Qny, Qnz, Nat.reduceAdd, Nat.reduceLT, Nat.reduceEqDiff, Qnx, QnT, QK, QL, QZ, aBin, aLen, Qnn, QnA, QnE, Q0, Xg, X8, goInt, QnR, QnY, QnX, T.QmN, T.QmO, QH, ei22, un22, ti24, t0, t3, t4, z9, z0, hg, QH, hsa1, hsa2]) | (with_reducible (first | refine Qh fun K hK => ?_ | refine Qq ?_ | refine QA ?_ | refine Qj ?_ | refine QD ?_)) | ((with_reducible refine hK _ ?_); clear hK) | (refine Qk rfl ?_; simp only [↓reduceIte]))
        refine Yr.mk (m' := l.length - (k + 1)) (by omega) ?_
        rw [hI]
        refine ⟨k + 1, rfl, hlt, t0, ?_, ?_, rfl⟩
        · simp only [upd, ↓reduceIte, Nat.reduceEqDiff]
          rw [hj']
        · simp only [upd, ↓reduceIte]
          rw [Yd (by omega)]
    · have z9 : ¬ (k : Int) < l.length := by omega
      have hkl : k = l.length := by omega
      rw [hkl, List.take_length] at t3
      repeat (first | (((with_reducible refine Qa fun K E hK hE => ?_)); simp -implicitDefEqProofs only [Qd, Qb, Qg, OpW, aop, AS.ev, Qc, Qi, ↓reduceIte, Nat.reduceLT, Nat.reduceEqDiff, aBin, aLen, Qnn, Q0, goInt, QnS, QH, un22, t0, t3, t4, z9, QH]) | (with_reducible (first | refine Qh fun K hK => ?_ | refine Ql ?_ | refine Xj ?_ | refine Qj ?_ | refine Q9 ?_ | refine Q8 ?_)) | ((with_reducible refine hK _ ?_); clear hK) | (clear hK; (with_reducible refine hK _ ?_); clear hK) | (refine Qk rfl ?_; simp only [↓reduceIte, Qnp]))
      simp only [QI, Qm, Qu, upd, ↓reduceIte, Qnr, Qnv]
      exact Qf (QhX _) (.keep (.v _)) ⟨rfl, rfl⟩
  · rw [hI]
    exact ⟨0, by omega, Nat.zero_le _, rfl, rfl, rfl, rfl⟩
theorem Qdf (n : Nat) (ih : WrP n) (hb : n ≤ 1000000) (nm : ByteArray) (hnm : nm.size ≤ 1000) (l : List T) (hn : ndsL l ≤ n) (hf : X7 l = true) (ho : oks l) :
    Pure Tryz.prog 43 [.v (.string nm), .sl 4 (avs l) none] (.v (.string (funT nm (txts l)))) := by
  intro h
  have hll := XZ l
  have hsl := Qa0 l
  have c := QgP n ih hb l hn hf ho
  have hs1 := QeK hf
  have h1 : ({ data := #[40] } : ByteArray).size = 1 := rfl
  have h2 : ({ data := #[41] } : ByteArray).size = 1 := rfl
  rw [funT, Qax]
  by_cases q : l = []
  · subst q
    have z : ((0 : Int) == 0) = true := rfl
    refine Qe Tryz.func43 rfl Tryz.call43 Tryz.ntmps43 (congrArg Array.toList Tryz.results43) (by simp) ?_
    repeat (first | (((with_reducible refine Qa fun K E hK hE => ?_)); simp -implicitDefEqProofs only [Qd, Qb, Qg, OpW, aop, undef, AS.ev, Qc, Qn, QG, Qi, Qw, Qns, QnL, ↓reduceIte, Qnz, Nat.reduceLT, Nat.reduceEqDiff, aBin, aLen, Qnn, QS, goInt, Qnt, Qn7, un22, Qek]) | (with_reducible (first | refine Qh fun K hK => ?_ | refine Ql ?_ | refine Qy ?_)) | ((with_reducible refine hK _ ?_); clear hK) | (refine Qk rfl ?_; simp only [↓reduceIte]))
    simp only [QI, Qm, Qu, upd, ↓reduceIte, Qnr, Qnv]; first | refine Qf (htake _ _) (.keep (.v _)) ⟨by rw [encB, if_neg (by simp)]; simp only [txts, Yh]; rw [show nm ++ ByteArray.empty = nm from ByteArray.append_empty], rfl⟩ | refine Qf List.take_length (.keep (.v _)) ⟨by rw [encB, if_neg (by simp)]; simp only [txts, Yh]; rw [show nm ++ ByteArray.empty = nm from ByteArray.append_empty], rfl⟩
  · have hl0 : 0 < l.length := List.length_pos_iff.2 q
    have z : ((l.length : Int) == 0) = false := by rw [beq_eq_false_iff_ne]; omega
    obtain ⟨J, eJ⟩ : ∃ J, J = Yh true (txts l) := ⟨_, rfl⟩
    rw [← eJ] at c hs1 ⊢
    have hsa1 := fun xo yo => Xv Tryz.prog 9 xo yo nm ({ data := #[40] } : ByteArray) (by omega)
    have hsa2 := fun xo yo => Xv Tryz.prog 9 xo yo (nm ++ ({ data := #[40] } : ByteArray)) J (by rw [QE]; omega)
    have hsa3 := fun xo yo => Xv Tryz.prog 9 xo yo (nm ++ ({ data := #[40] } : ByteArray) ++ J) ({ data := #[41] } : ByteArray) (by rw [QE, QE]; omega)
    refine Qe Tryz.func43 rfl Tryz.call43 Tryz.ntmps43 (congrArg Array.toList Tryz.results43) (by simp) ?_
    repeat (first | ((first | (with_reducible (first | refine Qa fun K E hK hE => ?_ | refine Qo c ?_))); simp -implicitDefEqProofs only [Qd, Qb, Qg, OpW, QO, aop, undef, AS.ev, Qc, Qn, QG, Qi, Qw, Qns, QnL, ↓reduceIte, Nat.reduceLT, Nat.reduceEqDiff, aBin, aLen, Qnn, QnA, QnE, QS, goInt, QH, un22, QH, z, hsa1, hsa2, hsa3]) | (with_reducible (first | refine Qh fun K hK => ?_ | refine Ql ?_ | refine QA ?_ | refine Qj ?_)) | ((with_reducible refine hK _ ?_); clear hK) | (refine Qk rfl ?_; simp only [↓reduceIte, Qnp]))
    simp only [QI, Qm, Qu, upd, ↓reduceIte, Qnr, Qnv]; first | refine Qf (htake _ _) (.keep (.v _)) ⟨by rw [decide_eq_true hl0, encB, if_pos rfl]; simp only [ByteArray.append_assoc], rfl⟩ | refine Qf List.take_length (.keep (.v _)) ⟨by rw [decide_eq_true hl0, encB, if_pos rfl]; simp only [ByteArray.append_assoc], rfl⟩
theorem Qcx (n : Nat) : n ≤ 1000000 → WrP n := by
  induction n with
  | zero => intro _ t hn _ _; have := T.QmZ t; omega
  | succ n ih0 =>
    intro hb t hn hf ho h
    have ih : WrP n := ih0 (by omega)
    obtain ⟨o1, o2, o3, o4⟩ := (T.ok_eq t).1 ho
    have hnd := T.QmZ t
    have hlx := (T.QmS hf).1
    have ett : ∀ (e : t.oper = 0), t.txt = if t.kind = 0 then decZ t.int else if t.kind = 1 then vOf (decN t.int.toNat) else funT t.name (txts t.args) := fun e => by
      cases t with | mk k i nm l => rw [T.txt, if_neg (by rw [e]; simp)]; rfl
    by_cases k0 : t.kind = 0
    · have z0 : (t.kind == 0) = true := by simp [k0]
      have e0 : t.oper = 0 := by rw [T.oper, if_pos (.inl (by omega))]
      have hi : -9223372036854775807 ≤ t.int ∧ t.int ≤ 9223372036854775807 := by cases t with | mk k i nm l => exact hlx.1 k0
      have c := Qk6 t.int hi.1 hi.2
      rw [ett e0, if_pos k0]
      refine Qe Tryz.func36 rfl Tryz.call36 Tryz.ntmps36 (congrArg Array.toList Tryz.results36) (by simp) ?_
      repeat (first | ((first | (with_reducible (first | refine Qa fun K E hK hE => ?_ | refine Qo c ?_))); simp -implicitDefEqProofs only [Qd, Qb, Qg, OpW, QO, aop, undef, AS.ev, Qc, Qn, QG, Qi, Qw, Qns, AV.QmP, QnF, QnG, Qv, Qt, QC, QnH, ↓reduceIte, Qny, Qnz, Nat.reduceAdd, Nat.reduceLT, Nat.reduceEqDiff, Qnx, QnK, Qp, QK, QL, aBin, QT, Qnl, Qnm, Qnn, QnA, QnE, QS, T.QmN, ti3, Xq, XG, T.QmN, z0]) | (with_reducible (first | refine Qh fun K hK => ?_ | refine Qq ?_ | refine Ql ?_ | refine Qy ?_ | refine QF ?_)) | ((with_reducible refine hK _ ?_); clear hK) | (refine Qk rfl ?_; simp only [↓reduceIte]))
      simp only [QI, Qm, Qu, upd, ↓reduceIte, Qnr, Qnv]; first | refine Qf (htake _ _) (.keep (.v _)) ⟨rfl, rfl⟩ | refine Qf List.take_length (.keep (.v _)) ⟨rfl, rfl⟩
    have z0 : (t.kind == 0) = false := by simp [k0]
    by_cases k1 : t.kind = 1
    · have z1 : (t.kind == 1) = true := by simp [k1]
      have e0 : t.oper = 0 := by rw [T.oper, if_pos (.inl (by omega))]
      have hi : 0 ≤ t.int ∧ t.int ≤ 1048576 := by cases t with | mk k i nm l => exact hlx.2.1 k1
      have c := QfP t.int.toNat (by omega)
      rw [show ((t.int.toNat : Nat) : Int) = t.int by omega] at c
      rw [ett e0, if_neg k0, if_pos k1]
      refine Qe Tryz.func36 rfl Tryz.call36 Tryz.ntmps36 (congrArg Array.toList Tryz.results36) (by simp) ?_
      repeat (first | ((first | (with_reducible (first | refine Qa fun K E hK hE => ?_ | refine Qo c ?_))); simp -implicitDefEqProofs only [Qd, Qb, Qg, OpW, QO, aop, undef, AS.ev, Qc, Qn, QG, Qi, Qw, Qns, AV.QmP, QnF, QnG, Qv, Qt, QC, QnH, ↓reduceIte, Qny, Qnz, Nat.reduceAdd, Nat.reduceLT, Nat.reduceEqDiff, Qnx, QnK, Qp, QK, QL, aBin, QT, Qnl, Qnm, Qnn, QnA, QnE, QS, T.QmN, ti3, Xq, XG, T.QmN, z0, z1]) | (with_reducible (first | refine Qh fun K hK => ?_ | refine Qq ?_ | refine Ql ?_ | refine Qy ?_ | refine QF ?_)) | ((with_reducible refine hK _ ?_); clear hK) | (refine Qk rfl ?_; simp only [↓reduceIte, Qnp]))
      simp only [QI, Qm, Qu, upd, ↓reduceIte, Qnr, Qnv]; first | refine Qf (htake _ _) (.keep (.v _)) ⟨rfl, rfl⟩ | refine Qf List.take_length (.keep (.v _)) ⟨rfl, rfl⟩
    have z1 : (t.kind == 1) = false := by simp [k1]
    have k2 : t.kind = 2 := by
      apply Classical.byContradiction
      intro k2
      rw [T.QmR, if_neg k0, if_neg k1, if_neg k2] at hf
      cases hf
    obtain ⟨_, hl6, hnm, hfs⟩ := T.QmW hf k2
    have cs := Qb5 t
    have es := T.Qm4 hf
    have hns : t.name.size ≤ 1000 := by
      rcases hnm with h | h
      · have := Y8 h; omega
      · by_cases hs1 : t.name.size = 1
        · omega
        · rw [QdM hs1] at h; exact absurd h.1 (by simp)
    by_cases e0 : t.oper = 0
    · rw [if_pos e0] at es
      rw [es] at cs
      have z3 : ¬ (3 : Int) < 3 := by decide
      have c := Qdf n ih (by omega) t.name hns t.args (by omega) hfs o4
      rw [ett e0, if_neg k0, if_neg k1]
      refine Qe Tryz.func36 rfl Tryz.call36 Tryz.ntmps36 (congrArg Array.toList Tryz.results36) (by simp) ?_
      repeat (first | ((first | (with_reducible (first | refine Qa fun K E hK hE => ?_ | refine Qo c ?_ | refine Qo cs ?_))); simp -implicitDefEqProofs only [Qd, Qb, Qg, OpW, QO, aop, undef, AS.ev, Qc, Qn, QG, Qi, Qw, Qns, AV.QmP, QnF, QnG, Qv, Qt, QC, QnH, ↓reduceIte, Qny, Qnz, Nat.reduceAdd, Nat.reduceLT, Nat.reduceEqDiff, Qnx, QnK, QnT, Qp, QK, QL, aBin, QT, Qnl, Qnm, Qnn, QnA, QnE, QS, Q0, QnS, T.QmN, T.QmO, ti3, ti9, ti22, ti24, Xq, Xx, Xy, T.QmO, T.QmN, z0, z1, z3]) | (with_reducible (first | refine Qh fun K hK => ?_ | refine Qq ?_ | refine Ql ?_ | refine QA ?_ | refine Qj ?_ | refine QD ?_)) | ((with_reducible refine hK _ ?_); clear hK) | (refine Qk rfl ?_; simp only [↓reduceIte, Qnp]))
      simp only [QI, Qm, Qu, upd, ↓reduceIte, Qnr, Qnv]; first | refine Qf (htake _ _) (.keep (.v _)) ⟨rfl, rfl⟩ | refine Qf List.take_length (.keep (.v _)) ⟨rfl, rfl⟩
    rw [if_neg e0] at es
    have hl2 : t.args.length = 2 := by
      apply Classical.byContradiction
      intro hc
      exact e0 (by rw [T.oper, if_pos (.inr hc)])
    obtain ⟨x, y, hxy⟩ : ∃ x y, t.args = [x, y] := by
      match hh : t.args, hl2 with
      | [x, y], _ => exact ⟨x, y, rfl⟩
    have er : t.oper = ofB t.name := by rw [T.oper, if_neg (by omega)]
    have ho12 := T.Qm1 t
    have hz : t.oper < 3 := by omega
    rw [es] at cs
    rw [hxy] at hfs o4
    have hfx : x.QmQ = true := Ya hfs x (by simp)
    have hfy : y.QmQ = true := Ya hfs y (by simp)
    have hox : x.ok := o4.1
    have hoy : y.ok := o4.2.1
    have hnx : x.nds ≤ n ∧ y.nds ≤ n := by rw [hxy] at hnd; simp only [ndsL] at hnd; omega
    have c1 := Qbe n ih (by omega) x hnx.1 hfx hox t.oper 0 (by omega) (by omega)
    have c2 := Qbe n ih (by omega) y hnx.2 hfy hoy t.oper 1 (by omega) (by omega)
    have ex : decide (x.strI < t.oper + 0) = ((x.oper == 1) && (ofB t.name == 2)) := by
      rw [T.Qm4 hfx, ← er]
      have := T.Qm1 x
      rw [Bool.eq_iff_iff, decide_eq_true_eq, Bool.and_eq_true, beq_iff_eq, beq_iff_eq]
      split <;> omega
    have ey : decide (y.strI < t.oper + 1) = ((y.oper != 0) && ((y.oper == 1) || (ofB t.name == 2))) := by
      rw [T.Qm4 hfy, ← er]
      have := T.Qm1 y
      rw [Bool.eq_iff_iff, decide_eq_true_eq, Bool.and_eq_true, Bool.or_eq_true, beq_iff_eq, beq_iff_eq, bne_iff_ne]
      split <;> omega
    rw [ex] at c1
    rw [ey] at c2
    have ett2 : t.txt = binT (ofB t.name) t.name x.oper y.oper x.txt y.txt := by
      cases t with | mk k i nm l =>
      simp only [T.args] at hxy
      subst hxy
      rw [T.txt, if_pos e0]; rfl
    obtain ⟨X, eX⟩ : ∃ X, X = encB ((x.oper == 1) && (ofB t.name == 2)) x.txt := ⟨_, rfl⟩
    obtain ⟨Y, eY⟩ : ∃ Y, Y = encB ((y.oper != 0) && ((y.oper == 1) || (ofB t.name == 2))) y.txt := ⟨_, rfl⟩
    have sx : X.size ≤ 60000002 := by
      have := QbV ((x.oper == 1) && (ofB t.name == 2)) x.txt
      have := (T.QmS hfx).2.1
      have := T.QmT x
      rw [eX]; omega
    have sy : Y.size ≤ 60000002 := by
      have := QbV ((y.oper != 0) && ((y.oper == 1) || (ofB t.name == 2))) y.txt
      have := (T.QmS hfy).2.1
      have := T.QmT y
      rw [eY]; omega
    rw [← eX] at c1
    rw [← eY] at c2
    have h1 : ({ data := #[32] } : ByteArray).size = 1 := rfl
    have hsa1 := fun xo yo => Xv Tryz.prog 9 xo yo X ({ data := #[32] } : ByteArray) (by omega)
    have hsa2 := fun xo yo => Xv Tryz.prog 9 xo yo (X ++ ({ data := #[32] } : ByteArray)) t.name (by rw [QE]; omega)
    have hsa3 := fun xo yo => Xv Tryz.prog 9 xo yo (X ++ ({ data := #[32] } : ByteArray) ++ t.name) ({ data := #[32] } : ByteArray) (by rw [QE, QE]; omega)
    have hsa4 := fun xo yo => Xv Tryz.prog 9 xo yo (X ++ ({ data := #[32] } : ByteArray) ++ t.name ++ ({ data := #[32] } : ByteArray)) Y (by rw [QE, QE, QE]; omega)
    have hav : avs t.args = [x.av, y.av] := by rw [hxy]; rfl
    have n02 : (0 : Int) < ((2 : Nat) : Int) := by decide
    have n01 : (0 : Int) ≤ 1 := by decide
    have n12 : (1 : Int) < ((2 : Nat) : Int) := by decide
    refine Qe Tryz.func36 rfl Tryz.call36 Tryz.ntmps36 (congrArg Array.toList Tryz.results36) (by simp) ?_
    repeat (first | ((first | (with_reducible (first | refine Qa fun K E hK hE => ?_ | refine Qo cs ?_ | refine QQ cs ?_ | refine QQ c1 ?_ | refine QQ c2 ?_)) | (refine QR (id := 6) [(0, 0), (1, 0), (2, 0), (3, 0), (4, 0), (5, 1), (6, 1), (7, 0), (8, 0), (9, 0), (10, 0), (11, 0), (12, 0), (13, 0), (14, 0), (15, 0), (16, 0), (17, 1), (18, 1), (19, 0), (20, 0)] mixed (by kernel_rfl) fun K hK => ?_)); simp -implicitDefEqProofs only [Q4, Q1, Xb, Qd, Qb, Qg, OpW, QO, aop, undef, AS.ev, Qc, Qn, QG, Qi, Qw, Qns, AV.QmP, QnF, QnG, Qv, Qt, QC, QnH, ↓reduceIte, Qny, Qnz, Nat.reduceAdd, Nat.reduceLT, Nat.reduceLeDiff, Nat.reduceEqDiff, Qnx, QnK, QnT, Qp, QK, QL, QZ, aBin, QT, Qnl, Qnm, Qnn, Qno, QnA, QnE, QS, Q0, QnR, Int.toNat_zero, Int.toNat_one, T.QmN, T.QmO, ti3, ti9, ti22, ei22, ti24, Xq, Xx, Xy, Qn8, T.QmO, T.QmN, z0, z1, hz, n02, n12, n01, hav, hsa1, hsa2, hsa3, hsa4]) | (with_reducible (first | refine Qh fun K hK => ?_ | refine Qq ?_ | refine Ql ?_ | refine Qy ?_ | refine QF ?_)) | ((with_reducible refine hK _ ?_); clear hK) | (refine Qk rfl ?_; simp only [↓reduceIte, Qnp]))
    simp only [QI, Qm, Qu, upd, ↓reduceIte, Qnr, Qnv]; first | refine Qf (htake _ _) (.keep (.v _)) ⟨by rw [ett2, binT, ← eX, ← eY]; simp only [ByteArray.append_assoc], rfl⟩ | refine Qf List.take_length (.keep (.v _)) ⟨by rw [ett2, binT, ← eX, ← eY]; simp only [ByteArray.append_assoc], rfl⟩
theorem QcX (t : T) (hn : t.nds ≤ 1000000) (hf : t.QmQ = true) (ho : t.ok) : Pure Tryz.prog 36 [t.av] (.v (.string t.txt)) := Qcx 1000000 (Nat.le_refl _) t hn hf ho
theorem Qb7 (nm : ByteArray) (hnm : nm.size ≤ 1000) (l : List T) (hn : ndsL l ≤ 1000000) (hf : X7 l = true) (ho : oks l) :
    Pure Tryz.prog 43 [.v (.string nm), .sl 4 (avs l) none] (.v (.string (funT nm (txts l)))) := Qdf 1000000 (Qcx 1000000 (Nat.le_refl _)) (Nat.le_refl _) nm hnm l hn hf ho
end Go.Proofs.YtehjodmnajgdgaaGreatDoor.Ab
