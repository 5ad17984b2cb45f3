/-
  An abstract program logic, contracts of functions, and laws of terms and rules (part 6).
-/
import Derived.Test.YtehjodmnajgdgaaGreatDoorAbFive
import Derived.Test.YtehjodmnajgdgaaGreatDoorAbFour
import Derived.Test.YtehjodmnajgdgaaGreatDoorAbTwo
set_option linter.unusedVariables false
set_option linter.unusedSimpArgs false
set_option maxHeartbeats 4000000
set_option maxRecDepth 4000
namespace Go.Proofs.YtehjodmnajgdgaaGreatDoor.Ab
open Go.Proofs
def Opn (f : FuncId) (xs : List AV) (l : List UInt8) (res : Res T) : Prop := ∀ (h : AH) (i : Nat), i < h.length → Tabs (hs h i (rd l)) → Xf Tryz.prog f (.ptr i 0 0 :: xs) (hs h i (rd l)) (RQ h i res)
theorem Opn.ok {f : FuncId} {xs : List AV} {l : List UInt8} {t : T} {r : List UInt8} (H : Opn f xs l (.ok t r)) {h : AH} {i : Nat} (hi : i < h.length) (hT : Tabs (hs h i (rd l))) (L : AH) :
    Xf Tryz.prog f (.ptr i 0 0 :: xs) (hs h i (rd l) ++ L) fun o h' => o = .ret t.av ∧ h' = hs h i (rd r) ++ L := by
  have := H (h ++ L) i (by rw [List.length_append]; omega) (by rw [X4 hi]; exact hT.app L)
  rw [X4 hi] at this
  exact this.mono fun o h' q => by simpa only [RQ, X4 hi] using q
theorem Opn.err {f : FuncId} {xs : List AV} {l : List UInt8} {n : Int} (H : Opn f xs l (.err n)) {h : AH} {i : Nat} (hi : i < h.length) (hT : Tabs (hs h i (rd l))) (L : AH) :
    Xf Tryz.prog f (.ptr i 0 0 :: xs) (hs h i (rd l) ++ L) fun o h' => o = .panic (Err n) ∧ ∃ r, h' = hs h i (rd r) ++ L := by
  have := H (h ++ L) i (by rw [List.length_append]; omega) (by rw [X4 hi]; exact hT.app L)
  rw [X4 hi] at this
  exact this.mono fun o h' q => by simpa only [RQ, X4 hi] using q
theorem QkS {c : UInt8} {k : Int} (hk : ((c.toNat : Nat) : Int) = k) (h : isD c = false) : Pure Tryz.prog 93 [.v (.int .u8 k)] (.b false) := by
  have := Qao c
  rw [h, hk] at this; exact this
theorem QgG {ex : List UInt8 → Res T} {N : Nat} (H : Rdr 49 ex N) (hEat : Eats 0 ex) (hN : N ≤ 1000000) : Rdr 116 (QbM false ex) (N + 1) := by
  intro l hl h i hi hT
  have f1 := Xw h i
  have f2 := Qai hi
  have f3 := Qcv hi
  have f4 := fun x L => Yg (h := h) (i := i) x L
  have f5 := fun x L k => Qaa (h := h) (i := i) x L k
  have f6 := fun x y L => X5 (h := h) (i := i) x y L
  have f7 := fun x y L k => YQ (h := h) (i := i) x y L k
  have cn := fun L => Qce hi l L
  have cmy := Qad 16
  have cmn := fun h => QbR 16 h
  rw [QbM]
  unfold nx at cn
  cases hsk : QV l with
  | nil =>
    rw [hsk] at cn
    simp only at cn
    have z1 : (((0 : Nat) : Int) == 45) = false := rfl
    have z2 : (((0 : Nat) : Int) == 40) = false := rfl
    have z3 : ((0 : Int) == 45) = false := rfl
    have z4 : ((0 : Int) == 40) = false := rfl
    have cd := QkS (c := 0) (k := (0 : Nat)) rfl rfl
    have cl := QbT 0
    rw [show isL 0 = false from rfl, show ((0 : UInt8).toNat : Int) = (0 : Nat) from rfl] at cl
    refine Qe Tryz.func116 rfl Tryz.call116 Tryz.ntmps116 (congrArg Array.toList Tryz.results116) (by simp) ?_
    repeat (first | ((first | (with_reducible (first | refine Qa fun K E hK hE => ?_ | refine Qr fun K E hK hE => ?_ | refine FunW.ret (FunW.call (cn _)) ?_ | refine Qz cd ?_ | refine Qz cl ?_))); simp -implicitDefEqProofs only [Qd, Qb, Qf, OpW, QQ, aop, undef, AS.ev, Qc, Qn, Qg, Qv, QmZ, AV.Qmr, Qo, Qnc, Qnd, Qs, Qu, QE, Qne, ↓reduceIte, Qm5, Qm6, Nat.reduceAdd, Nat.reduceLT, Nat.reduceEqDiff, Qm4, aBin, QmU, Qm7, Qnb, QR, QnE, zi24, un38, f1, z3, z4]) | (with_reducible (first | refine Qi fun K hK => ?_ | refine Qq ?_ | refine QD ?_ | refine Qj ?_ | refine QF ?_)) | ((with_reducible refine hK _ ?_); clear hK) | (refine Qk rfl ?_; simp only [↓reduceIte, QmW]) | (with_reducible refine hE _ _ ?_))
    exact ZR _ _ _ _ _ _
  | cons c r2 =>
    rw [hsk] at cn
    simp only at cn ⊢
    have hlt := Xe hsk
    have cd := Qao c
    have cl := QbT c
    have hT1 := hT.rds hi (c :: r2)
    have hT2 := hT.rds hi r2
    have hp := QkP c r2
    by_cases h1 : isD c = true
    · rw [if_pos h1]
      rw [h1] at cd
      have cI : Opn 133 [.i 1] (c :: r2) (pInt false 1 (c :: r2)) := fun h i hi hT => QcF 1 (.inl rfl) (c :: r2) h1 (by simp only [Qm5]; omega) hi hT
      cases hr : pInt false 1 (c :: r2) with
      | err n =>
        rw [hr] at cI
        have c1 := fun L => cI.err hi hT1 L
        refine Qe Tryz.func116 rfl Tryz.call116 Tryz.ntmps116 (congrArg Array.toList Tryz.results116) (by simp) ?_
        repeat (first | ((first | (with_reducible (first | refine Qa fun K E hK hE => ?_ | refine FunW.ret (FunW.call (cn _)) ?_ | refine Qz cd ?_ | refine FunW.panE (FunW.call (c1 _)) fun x => ?_))); simp -implicitDefEqProofs only [Qd, Qb, Qf, OpW, QQ, aop, undef, AS.ev, Qc, Qn, Qg, Qv, QmZ, AV.Qmr, Qo, Qnc, Qnd, Qs, Qu, QE, Qne, ↓reduceIte, Qm5, Qm6, Nat.reduceAdd, Nat.reduceLT, Nat.reduceEqDiff, Qm4, Qm7, Qnb, zi24, f1]) | (with_reducible (first | refine Qi fun K hK => ?_ | refine Qq ?_)) | ((with_reducible refine hK _ ?_); clear hK) | (refine Qk rfl ?_; simp only [↓reduceIte]) | (with_reducible (first | refine hE _ _ ?_ | refine XY ?_ | refine X8 ?_)))
        exact ZR _ _ _ _ _ _
      | ok t r =>
        rw [hr] at cI
        have c1 := fun L => cI.ok hi hT1 L
        refine Qe Tryz.func116 rfl Tryz.call116 Tryz.ntmps116 (congrArg Array.toList Tryz.results116) (by simp) ?_
        repeat (first | ((first | (with_reducible (first | refine Qa fun K E hK hE => ?_ | refine FunW.ret (FunW.call (cn _)) ?_ | refine Qz cd ?_ | refine FunW.ret (FunW.call (c1 _)) ?_))); simp -implicitDefEqProofs only [Qd, Qb, Qf, OpW, QQ, aop, undef, AS.ev, Qc, QL, Qn, Qg, Qv, QmZ, AV.Qmr, Qo, QB, Qnc, Qnd, Qs, Qu, QE, QI, Qne, ↓reduceIte, Qm5, Qm6, Nat.reduceAdd, Nat.reduceLT, Nat.reduceEqDiff, Qm4, Qnq, QW, QM, QmS, Qnm, QmU, Qm7, Qnb, T.Qmp, T.Qmq, ti24, zi24, f1, f4, f6]) | (with_reducible (first | refine Qi fun K hK => ?_ | refine Qq ?_ | refine Qm ?_ | refine QA ?_ | refine QJ ?_)) | ((with_reducible refine hK _ ?_); clear hK) | (refine Qk rfl ?_; simp only [↓reduceIte]))
        simp -implicitDefEqProofs only [Qg, ↓reduceIte, Qm5, Qm6, Nat.reduceAdd, Nat.reduceEqDiff, Qm4, Qnq, QG, QH, QmS, QmY, T.Qmp, T.Qmq, ti24, QG, QH, f4, T.Qmp, T.Qmq, QN, Qp, Qw, Qm2]
        exact Qd8 _ _ _ _ _ _
    · rw [if_neg h1]
      rw [Bool.not_eq_true] at h1
      rw [h1] at cd
      by_cases h2 : c.toNat = 45
      · rw [if_pos h2]
        have z1 : ((((c.toNat : Nat) : Int)) == 45) = true := by simp [h2]
        cases r2 with
        | nil =>
          rw [if_neg (by simp [headD])]
          have hz := QeT []
          rw [decide_eq_true rfl] at hz
          have hz2 : (({ data := #[] } : ByteArray).toList == ({ data := #[] } : ByteArray).toList) = true := by simp
          refine Qe Tryz.func116 rfl Tryz.call116 Tryz.ntmps116 (congrArg Array.toList Tryz.results116) (by simp) ?_
          repeat (first | ((first | (with_reducible (first | refine Qa fun K E hK hE => ?_ | refine FunW.ret (FunW.call (cn _)) ?_ | refine Qz cd ?_ | refine FunW.pan (FunW.call (cmn _)) ?_))); simp -implicitDefEqProofs only [Qd, Qb, Qf, OpW, QQ, aop, undef, AS.ev, Qc, QL, Qn, Qt, QO, Qg, Qv, QmZ, AV.Qmr, Qo, QT, Q7, Qnc, Qnd, Qs, Qu, QE, Qne, Qnf, ↓reduceIte, Qm5, Qm6, Nat.reduceAdd, Nat.reduceLT, Nat.reduceEqDiff, Qm4, Qnh, Qnq, Ql, QG, QH, QW, QM, aBin, YF, QmS, QmT, Qnm, QmU, Qnx, QmX, QmV, Qm7, Qnb, QR, Yw, QmW, beq_true, ti9, ei9, zi24, Yb, QC, f1, f2, f3, z1, hp, hz]) | (with_reducible (first | refine Qi fun K hK => ?_ | refine Qq ?_)) | ((with_reducible refine hK _ ?_); clear hK) | (refine Qk rfl ?_; simp only [↓reduceIte, QmW]) | (with_reducible (first | refine hE _ _ ?_ | refine XY ?_ | refine X8 ?_)))
          exact ZR _ _ _ _ _ _
        | cons d r3 =>
          have hz := QeT (d :: r3)
          rw [decide_eq_false (by simp)] at hz
          have hix := Zp Tryz.prog 9 (by kernel_rfl) (mkB (d :: r3)) (by rw [XX]; simp)
          rw [Qci _ 0 (by simp), List.getElem_cons_zero] at hix
          have cd2 := Qao d
          by_cases h3 : isD d = true
          · rw [if_pos (show headD (d :: r3) = true from h3)]
            rw [h3] at cd2
            have cI : Opn 133 [.i (-1)] (d :: r3) (pInt false (-1) (d :: r3)) := fun h i hi hT => QcF (-1) (.inr rfl) (d :: r3) h3 (by simp only [Qm5] at hlt ⊢; omega) hi hT
            cases hr : pInt false (-1) (d :: r3) with
            | err n =>
              rw [hr] at cI
              have c1 := fun L => cI.err hi hT2 L
              refine Qe Tryz.func116 rfl Tryz.call116 Tryz.ntmps116 (congrArg Array.toList Tryz.results116) (by simp) ?_
              repeat (first | ((first | (with_reducible (first | refine Qa fun K E hK hE => ?_ | refine FunW.ret (FunW.call (cn _)) ?_ | refine Qz cd ?_ | refine Qz cd2 ?_ | refine Qz cmy ?_ | refine FunW.panE (FunW.call (c1 _)) fun x => ?_))); simp -implicitDefEqProofs only [Qd, Qb, Qf, OpW, QQ, aop, undef, AS.ev, Qc, QL, Qn, QO, Qg, Qv, QmZ, AV.Qmr, Qo, QT, Q7, Qnc, Qnd, Qs, Qu, QE, Qne, Qng, ↓reduceIte, Qm5, Qm6, Nat.reduceAdd, Nat.reduceLT, Nat.reduceEqDiff, Qm4, Qnh, Qnq, Ql, QG, QH, QW, QM, aBin, YF, QmS, QmT, Qnm, QmU, Qnx, QmX, QmV, Qm7, Qnb, QR, Yw, Qm0, ti9, ei9, zi24, Yb, QC, f1, f2, f3, z1, hp, hz, hix]) | (with_reducible (first | refine Qi fun K hK => ?_ | refine Qq ?_)) | ((with_reducible refine hK _ ?_); clear hK) | (refine Qk rfl ?_; simp only [↓reduceIte, QmW]) | (with_reducible (first | refine hE _ _ ?_ | refine XY ?_ | refine X8 ?_)))
              exact ZR _ _ _ _ _ _
            | ok t r =>
              rw [hr] at cI
              have c1 := fun L => cI.ok hi hT2 L
              refine Qe Tryz.func116 rfl Tryz.call116 Tryz.ntmps116 (congrArg Array.toList Tryz.results116) (by simp) ?_
              repeat (first | ((first | (with_reducible (first | refine Qa fun K E hK hE => ?_ | refine FunW.ret (FunW.call (cn _)) ?_ | refine Qz cd ?_ | refine Qz cd2 ?_ | refine Qz cmy ?_ | refine FunW.ret (FunW.call (c1 _)) ?_))); simp -implicitDefEqProofs only [Qd, Qb, Qf, OpW, QQ, aop, undef, AS.ev, Qc, QL, Qn, QO, Qg, Qv, QmZ, AV.Qmr, Qo, QT, QB, Q7, Qnc, Qnd, Qs, Qu, QE, QI, Qne, Qng, ↓reduceIte, Qm5, Qm6, Nat.reduceAdd, Nat.reduceLT, Nat.reduceEqDiff, Qm4, Qnh, Qnq, Ql, QG, QH, QW, QM, aBin, YF, QmS, QmT, Qnm, QmU, Qnx, QmX, QmV, Qm7, Qnb, QR, Yw, Qm0, T.Qmp, T.Qmq, ti9, ei9, ti24, zi24, Yb, QC, f1, f2, f3, f4, f6, z1, hp, hz, hix]) | (with_reducible (first | refine Qi fun K hK => ?_ | refine Qq ?_ | refine Qm ?_ | refine QA ?_ | refine QJ ?_)) | ((with_reducible refine hK _ ?_); clear hK) | (refine Qk rfl ?_; simp only [↓reduceIte, QmW]))
              simp -implicitDefEqProofs only [Qg, ↓reduceIte, Qm5, Qm6, Nat.reduceAdd, Nat.reduceEqDiff, Qm4, Qnq, QG, QH, QmS, QmY, T.Qmp, T.Qmq, ti24, QG, QH, f4, T.Qmp, T.Qmq, QN, Qp, Qw, Qm2]
              exact Qd8 _ _ _ _ _ _
          · rw [if_neg (show ¬ headD (d :: r3) = true from h3)]
            rw [Bool.not_eq_true] at h3
            rw [h3] at cd2
            refine Qe Tryz.func116 rfl Tryz.call116 Tryz.ntmps116 (congrArg Array.toList Tryz.results116) (by simp) ?_
            repeat (first | ((first | (with_reducible (first | refine Qa fun K E hK hE => ?_ | refine FunW.ret (FunW.call (cn _)) ?_ | refine Qz cd ?_ | refine Qz cd2 ?_ | refine FunW.pan (FunW.call (cmn _)) ?_))); simp -implicitDefEqProofs only [Qd, Qb, Qf, OpW, QQ, aop, undef, AS.ev, Qc, QL, Qn, QO, Qg, Qv, QmZ, AV.Qmr, Qo, QT, Q7, Qnc, Qnd, Qs, Qu, QE, Qne, Qng, ↓reduceIte, Qm5, Qm6, Nat.reduceAdd, Nat.reduceLT, Nat.reduceEqDiff, Qm4, Qnh, Qnq, Ql, QG, QH, QW, QM, aBin, YF, QmS, QmT, Qnm, QmU, Qnx, QmX, QmV, Qm7, Qnb, QR, Yw, Qm0, ti9, ei9, zi24, Yb, QC, f1, f2, f3, z1, hp, hz, hix]) | (with_reducible (first | refine Qi fun K hK => ?_ | refine Qq ?_)) | ((with_reducible refine hK _ ?_); clear hK) | (refine Qk rfl ?_; simp only [↓reduceIte, QmW]) | (with_reducible (first | refine hE _ _ ?_ | refine XY ?_ | refine X8 ?_)))
            exact ZR _ _ _ _ _ _
      · rw [if_neg h2]
        have z1 : ((((c.toNat : Nat) : Int)) == 45) = false := by simp; omega
        by_cases h3 : isL c = true
        · rw [if_pos h3]
          rw [h3] at cl
          have cW : Opn 55 [] (c :: r2) (Z8 ex (c :: r2)) := fun h i hi hT => Qdt H hEat hN c r2 h3 (by simp only [Qm5]; omega) h i hi hT
          cases hr : Z8 ex (c :: r2) with
          | err n =>
            rw [hr] at cW
            have c1 := fun L => cW.err hi hT1 L
            refine Qe Tryz.func116 rfl Tryz.call116 Tryz.ntmps116 (congrArg Array.toList Tryz.results116) (by simp) ?_
            repeat (first | ((first | (with_reducible (first | refine Qa fun K E hK hE => ?_ | refine FunW.ret (FunW.call (cn _)) ?_ | refine Qz cd ?_ | refine Qz cl ?_ | refine FunW.panE (FunW.call (c1 _)) fun x => ?_))); simp -implicitDefEqProofs only [Qd, Qb, Qf, OpW, QQ, aop, undef, AS.ev, Qc, Qn, Qg, Qv, QmZ, AV.Qmr, Qo, Qnc, Qnd, Qs, Qu, QE, Qne, ↓reduceIte, Qm5, Qm6, Nat.reduceAdd, Nat.reduceLT, Nat.reduceEqDiff, Qm4, aBin, QmU, Qm7, Qnb, QR, zi24, f1, z1]) | (with_reducible (first | refine Qi fun K hK => ?_ | refine Qq ?_)) | ((with_reducible refine hK _ ?_); clear hK) | (refine Qk rfl ?_; simp only [↓reduceIte, QmW]) | (with_reducible (first | refine hE _ _ ?_ | refine XY ?_ | refine X8 ?_)))
            exact ZR _ _ _ _ _ _
          | ok t r =>
            rw [hr] at cW
            have c1 := fun L => cW.ok hi hT1 L
            refine Qe Tryz.func116 rfl Tryz.call116 Tryz.ntmps116 (congrArg Array.toList Tryz.results116) (by simp) ?_
            repeat (first | ((first | (with_reducible (first | refine Qa fun K E hK hE => ?_ | refine FunW.ret (FunW.call (cn _)) ?_ | refine Qz cd ?_ | refine Qz cl ?_ | refine FunW.ret (FunW.call (c1 _)) ?_))); simp -implicitDefEqProofs only [Qd, Qb, Qf, OpW, QQ, aop, undef, AS.ev, Qc, QL, Qn, Qg, Qv, QmZ, AV.Qmr, Qo, QB, Qnc, Qnd, Qs, Qu, QE, QI, Qne, ↓reduceIte, Qm5, Qm6, Nat.reduceAdd, Nat.reduceLT, Nat.reduceEqDiff, Qm4, Qnq, QW, QM, aBin, QmS, Qnm, QmU, Qm7, Qnb, QR, T.Qmp, T.Qmq, ti24, zi24, f1, f4, f6, z1]) | (with_reducible (first | refine Qi fun K hK => ?_ | refine Qq ?_ | refine Qm ?_ | refine QA ?_ | refine QJ ?_)) | ((with_reducible refine hK _ ?_); clear hK) | (refine Qk rfl ?_; simp only [↓reduceIte, QmW]))
            simp -implicitDefEqProofs only [Qg, ↓reduceIte, Qm5, Qm6, Nat.reduceAdd, Nat.reduceEqDiff, Qm4, Qnq, QG, QH, QmS, QmY, T.Qmp, T.Qmq, ti24, QG, QH, f4, T.Qmp, T.Qmq, QN, Qp, Qw, Qm2]
            exact Qd8 _ _ _ _ _ _
        · rw [if_neg h3]
          rw [Bool.not_eq_true] at h3
          rw [h3] at cl
          by_cases h4 : c.toNat = 40
          · rw [if_pos h4]
            have z2 : ((((c.toNat : Nat) : Int)) == 40) = true := by simp [h4]
            cases hr : ex r2 with
            | err n =>
              have c1 := fun L => H.err (by omega) hi hT2 L hr
              refine Qe Tryz.func116 rfl Tryz.call116 Tryz.ntmps116 (congrArg Array.toList Tryz.results116) (by simp) ?_
              repeat (first | ((first | (with_reducible (first | refine Qa fun K E hK hE => ?_ | refine FunW.ret (FunW.call (cn _)) ?_ | refine Qz cd ?_ | refine Qz cl ?_ | refine FunW.panE (FunW.call (c1 _)) fun x => ?_))); simp -implicitDefEqProofs only [Qd, Qb, Qf, OpW, QQ, aop, undef, AS.ev, Qc, QL, Qn, Qg, Qv, QmZ, AV.Qmr, Qo, QT, Q7, Qnc, Qnd, Qs, Qu, QE, Qne, ↓reduceIte, Qm5, Qm6, Nat.reduceAdd, Nat.reduceLT, Nat.reduceEqDiff, Qm4, Qnh, Qnq, Ql, QG, QH, QW, QM, aBin, YF, QmS, Qnm, QmU, Qnx, Qm7, Qnb, QR, ti9, ei9, zi24, Yb, QC, f1, f2, f3, z1, z2, hp]) | (with_reducible (first | refine Qi fun K hK => ?_ | refine Qq ?_)) | ((with_reducible refine hK _ ?_); clear hK) | (refine Qk rfl ?_; simp only [↓reduceIte, QmW]) | (with_reducible (first | refine hE _ _ ?_ | refine XY ?_ | refine X8 ?_)))
              exact ZR _ _ _ _ _ _
            | ok t r =>
              have c1 := fun L => H.ok (by omega) hi hT2 L hr
              simp only
              cases hsk2 : QV r with
              | nil =>
                have ct := fun L => Qa2 hi (QhU hsk2 (k := 41) (by decide)) L
                refine Qe Tryz.func116 rfl Tryz.call116 Tryz.ntmps116 (congrArg Array.toList Tryz.results116) (by simp) ?_
                repeat (first | ((first | (with_reducible (first | refine Qa fun K E hK hE => ?_ | refine FunW.ret (FunW.call (cn _)) ?_ | refine Qz cd ?_ | refine Qz cl ?_ | refine FunW.ret (FunW.call (c1 _)) ?_ | refine FunW.ret (FunW.call (ct _)) ?_ | refine FunW.pan (FunW.call (cmn _)) ?_))); simp -implicitDefEqProofs only [Qd, Qb, Qf, OpW, QQ, aop, undef, AS.ev, Qc, QL, Qn, Qg, Qv, QmZ, AV.Qmr, Qo, QT, QB, Q7, Qnc, Qnd, Qs, Qu, QE, QI, Qne, ↓reduceIte, Qm5, Qm6, Nat.reduceAdd, Nat.reduceLT, Nat.reduceEqDiff, Qm4, Qnh, Qnq, Ql, QG, QH, QW, QM, aBin, YF, hlen, happ, QmS, QmT, Qnm, Qnn, QmU, Qnx, Qm7, Qnb, Qnk, Qnj, QR, T.Qmp, T.Qmq, ti9, ei9, ti24, zi24, Yb, QC, f1, f2, f3, f5, f7, z1, z2, hp, T.Qmp, T.Qmq]) | (with_reducible (first | refine Qi fun K hK => ?_ | refine Qq ?_)) | ((with_reducible refine hK _ ?_); clear hK) | (refine Qk rfl ?_; simp only [↓reduceIte, QmW]) | (with_reducible (first | refine hE _ _ ?_ | refine XY ?_ | refine X8 ?_)))
                exact ZR _ _ _ _ _ _
              | cons d r4 =>
                simp only
                by_cases h5 : d.toNat = 41
                · rw [if_pos h5]
                  have ct := fun L => Qdg hi hsk2 (k := 41) (by omega) L
                  refine Qe Tryz.func116 rfl Tryz.call116 Tryz.ntmps116 (congrArg Array.toList Tryz.results116) (by simp) ?_
                  repeat (first | ((first | (with_reducible (first | refine Qa fun K E hK hE => ?_ | refine FunW.ret (FunW.call (cn _)) ?_ | refine Qz cd ?_ | refine Qz cl ?_ | refine FunW.ret (FunW.call (c1 _)) ?_ | refine FunW.ret (FunW.call (ct _)) ?_ | refine Qz cmy ?_))); simp -implicitDefEqProofs only [Qd, Qb, Qf, OpW, QQ, aop, undef, AS.ev, Qc, QL, Qn, Qg, Qv, QmZ, AV.Qmr, Qo, QT, QB, Q7, Qnc, Qnd, Qs, Qu, QE, QI, Qne, ↓reduceIte, Qm5, Qm6, Nat.reduceAdd, Nat.reduceLT, Nat.reduceEqDiff, Qm4, Qnh, Qnq, Ql, QG, QH, QW, QM, aBin, YF, hlen, happ, QmS, QmT, Qnm, Qnn, QmU, Qnx, Qm7, Qnb, Qnk, Qnj, QR, T.Qmp, T.Qmq, ti9, ei9, ti24, zi24, Yb, QC, f1, f2, f3, f4, f5, f6, f7, z1, z2, hp, T.Qmp, T.Qmq]) | (with_reducible (first | refine Qi fun K hK => ?_ | refine Qq ?_ | refine Qm ?_ | refine QA ?_ | refine QJ ?_)) | ((with_reducible refine hK _ ?_); clear hK) | (refine Qk rfl ?_; simp only [↓reduceIte, QmW]))
                  simp -implicitDefEqProofs only [Qg, ↓reduceIte, Qm5, Qm6, Nat.reduceAdd, Nat.reduceEqDiff, Qm4, Qnq, QG, QH, QmS, QmY, T.Qmp, T.Qmq, ti24, QG, QH, f4, T.Qmp, T.Qmq, QN, Qp, Qw, Qm2]
                  exact Qd8 _ _ _ _ _ _
                · rw [if_neg h5]
                  have ct := fun L => Qa2 hi (Qk8 hsk2 (k := 41) (by omega)) L
                  refine Qe Tryz.func116 rfl Tryz.call116 Tryz.ntmps116 (congrArg Array.toList Tryz.results116) (by simp) ?_
                  repeat (first | ((first | (with_reducible (first | refine Qa fun K E hK hE => ?_ | refine FunW.ret (FunW.call (cn _)) ?_ | refine Qz cd ?_ | refine Qz cl ?_ | refine FunW.ret (FunW.call (c1 _)) ?_ | refine FunW.ret (FunW.call (ct _)) ?_ | refine FunW.pan (FunW.call (cmn _)) ?_))); simp -implicitDefEqProofs only [Qd, Qb, Qf, OpW, QQ, aop, undef, AS.ev, Qc, QL, Qn, Qg, Qv, QmZ, AV.Qmr, Qo, QT, QB, Q7, Qnc, Qnd, Qs, Qu, QE, QI, Qne, ↓reduceIte, Qm5, Qm6, Nat.reduceAdd, Nat.reduceLT, Nat.reduceEqDiff, Qm4, Qnh, Qnq, Ql, QG, QH, QW, QM, aBin, YF, hlen, happ, QmS, QmT, Qnm, Qnn, QmU, Qnx, Qm7, Qnb, Qnk, Qnj, QR, T.Qmp, T.Qmq, ti9, ei9, ti24, zi24, Yb, QC, f1, f2, f3, f5, f7, z1, z2, hp, T.Qmp, T.Qmq]) | (with_reducible (first | refine Qi fun K hK => ?_ | refine Qq ?_)) | ((with_reducible refine hK _ ?_); clear hK) | (refine Qk rfl ?_; simp only [↓reduceIte, QmW]) | (with_reducible (first | refine hE _ _ ?_ | refine XY ?_ | refine X8 ?_)))
                  exact ZR _ _ _ _ _ _
          · rw [if_neg h4]
            have z2 : ((((c.toNat : Nat) : Int)) == 40) = false := by simp; omega
            refine Qe Tryz.func116 rfl Tryz.call116 Tryz.ntmps116 (congrArg Array.toList Tryz.results116) (by simp) ?_
            repeat (first | ((first | (with_reducible (first | refine Qa fun K E hK hE => ?_ | refine Qr fun K E hK hE => ?_ | refine FunW.ret (FunW.call (cn _)) ?_ | refine Qz cd ?_ | refine Qz cl ?_))); simp -implicitDefEqProofs only [Qd, Qb, Qf, OpW, QQ, aop, undef, AS.ev, Qc, Qn, Qg, Qv, QmZ, AV.Qmr, Qo, Qnc, Qnd, Qs, Qu, QE, Qne, ↓reduceIte, Qm5, Qm6, Nat.reduceAdd, Nat.reduceLT, Nat.reduceEqDiff, Qm4, aBin, QmU, Qm7, Qnb, QR, zi24, un38, f1, z1, z2]) | (with_reducible (first | refine Qi fun K hK => ?_ | refine Qq ?_ | refine QD ?_ | refine Qj ?_ | refine QF ?_)) | ((with_reducible refine hK _ ?_); clear hK) | (refine Qk rfl ?_; simp only [↓reduceIte, QmW]) | (with_reducible refine hE _ _ ?_))
            exact ZR _ _ _ _ _ _
end Go.Proofs.YtehjodmnajgdgaaGreatDoor.Ab
set_option maxRecDepth 4000
namespace Go.Proofs.YtehjodmnajgdgaaGreatDoor.Ab
open Go.Proofs
theorem QgM {g : List UInt8 → Res T} {N : Nat} (H : Rdr 116 g N) (hEat : Eats 0 g) (hN : N ≤ 1000000) : Rdr 87 (chain g 2) N := by
  intro l hl h i hi hT
  have f1 := Xw h i
  have f4 := fun x L => Yg (h := h) (i := i) x L
  have f6 := fun x y L => X5 (h := h) (i := i) x y L
  cases hr : chain g 2 l with
  | err n =>
    have c1 : ∀ L, Xf Tryz.prog 86 [.ptr i 0 0, .i 2, .fn (.func 116) [.ptr i 0 0] []] (hs h i (rd l) ++ L) fun o h' => o = .panic (Err n) ∧ ∃ r, h' = hs h i (rd r) ++ L := fun L => by
      have := Qbn H hEat 2 (by decide) hN l hl (h ++ L) i (by rw [List.length_append]; omega) (by rw [X4 hi]; exact hT.app L)
      rw [X4 hi, hr] at this
      exact this.mono fun o h' q => by simpa only [RQ, X4 hi] using q
    refine Qe Tryz.func87 rfl Tryz.call87 Tryz.ntmps87 (congrArg Array.toList Tryz.results87) (by simp) ?_
    repeat (first | ((first | (with_reducible (first | refine Qa fun K E hK hE => ?_ | refine FunW.panE (FunW.call (c1 _)) fun x => ?_))); simp -implicitDefEqProofs only [Qd, Qb, Qf, OpW, QQ, aop, undef, AS.ev, Qc, Qn, Qg, Qv, QmZ, AV.Qmr, Qo, Qnc, Qnd, Qs, Qu, QE, Qne, ↓reduceIte, Qm5, Qm6, Nat.reduceAdd, Nat.reduceLT, Nat.reduceEqDiff, Qm4, Qm7, Qnb, zi24, f1]) | ((with_reducible refine hK _ ?_); clear hK) | (with_reducible refine hE _ _ ?_))
    exact ZR _ _ _ _ _ _
  | ok t r =>
    have c1 : ∀ L, Xf Tryz.prog 86 [.ptr i 0 0, .i 2, .fn (.func 116) [.ptr i 0 0] []] (hs h i (rd l) ++ L) fun o h' => o = .ret t.av ∧ h' = hs h i (rd r) ++ L := fun L => by
      have := Qbn H hEat 2 (by decide) hN l hl (h ++ L) i (by rw [List.length_append]; omega) (by rw [X4 hi]; exact hT.app L)
      rw [X4 hi, hr] at this
      exact this.mono fun o h' q => by simpa only [RQ, X4 hi] using q
    refine Qe Tryz.func87 rfl Tryz.call87 Tryz.ntmps87 (congrArg Array.toList Tryz.results87) (by simp) ?_
    repeat (first | ((first | (with_reducible (first | refine Qa fun K E hK hE => ?_ | refine FunW.ret (FunW.call (c1 _)) ?_))); simp -implicitDefEqProofs only [Qd, Qb, Qf, OpW, QQ, aop, undef, AS.ev, Qc, QL, Qn, Qg, Qv, QmZ, AV.Qmr, Qo, QB, Qnc, Qnd, Qs, Qu, QE, QI, Qne, ↓reduceIte, Qm5, Qm6, Nat.reduceAdd, Nat.reduceLT, Nat.reduceEqDiff, Qm4, Qnq, QW, QM, QmS, Qnm, QmU, Qm7, Qnb, T.Qmp, T.Qmq, ti24, zi24, f1, f4, f6]) | (with_reducible refine Qm ?_) | ((with_reducible refine hK _ ?_); clear hK))
    simp -implicitDefEqProofs only [Qg, ↓reduceIte, Qm5, Qm6, Nat.reduceAdd, Nat.reduceEqDiff, Qm4, Qnq, QmS, QmY, T.Qmp, T.Qmq, ti24, QG, QH, f4, T.Qmp, T.Qmq, QN, Qp, Qw, Qm2]
    exact Qd8 _ _ _ _ _ _
theorem QkR {g : List UInt8 → Res T} {N : Nat} (H : Rdr 87 g N) (hEat : Eats 0 g) (hN : N ≤ 1000000) : Rdr 49 (chain g 1) N := by
  intro l hl h i hi hT
  have f1 := Xw h i
  have f4 := fun x L => Yg (h := h) (i := i) x L
  have f6 := fun x y L => X5 (h := h) (i := i) x y L
  cases hr : chain g 1 l with
  | err n =>
    have c1 : ∀ L, Xf Tryz.prog 86 [.ptr i 0 0, .i 1, .fn (.func 87) [.ptr i 0 0] []] (hs h i (rd l) ++ L) fun o h' => o = .panic (Err n) ∧ ∃ r, h' = hs h i (rd r) ++ L := fun L => by
      have := Qbn H hEat 1 (by decide) hN l hl (h ++ L) i (by rw [List.length_append]; omega) (by rw [X4 hi]; exact hT.app L)
      rw [X4 hi, hr] at this
      exact this.mono fun o h' q => by simpa only [RQ, X4 hi] using q
    refine Qe Tryz.func49 rfl Tryz.call49 Tryz.ntmps49 (congrArg Array.toList Tryz.results49) (by simp) ?_
    repeat (first | ((first | (with_reducible (first | refine Qa fun K E hK hE => ?_ | refine FunW.panE (FunW.call (c1 _)) fun x => ?_))); simp -implicitDefEqProofs only [Qd, Qb, Qf, OpW, QQ, aop, undef, AS.ev, Qc, Qn, Qg, Qv, QmZ, AV.Qmr, Qo, Qnc, Qnd, Qs, Qu, QE, Qne, ↓reduceIte, Qm5, Qm6, Nat.reduceAdd, Nat.reduceLT, Nat.reduceEqDiff, Qm4, Qm7, Qnb, zi24, f1]) | ((with_reducible refine hK _ ?_); clear hK) | (with_reducible refine hE _ _ ?_))
    exact ZR _ _ _ _ _ _
  | ok t r =>
    have c1 : ∀ L, Xf Tryz.prog 86 [.ptr i 0 0, .i 1, .fn (.func 87) [.ptr i 0 0] []] (hs h i (rd l) ++ L) fun o h' => o = .ret t.av ∧ h' = hs h i (rd r) ++ L := fun L => by
      have := Qbn H hEat 1 (by decide) hN l hl (h ++ L) i (by rw [List.length_append]; omega) (by rw [X4 hi]; exact hT.app L)
      rw [X4 hi, hr] at this
      exact this.mono fun o h' q => by simpa only [RQ, X4 hi] using q
    refine Qe Tryz.func49 rfl Tryz.call49 Tryz.ntmps49 (congrArg Array.toList Tryz.results49) (by simp) ?_
    repeat (first | ((first | (with_reducible (first | refine Qa fun K E hK hE => ?_ | refine FunW.ret (FunW.call (c1 _)) ?_))); simp -implicitDefEqProofs only [Qd, Qb, Qf, OpW, QQ, aop, undef, AS.ev, Qc, QL, Qn, Qg, Qv, QmZ, AV.Qmr, Qo, QB, Qnc, Qnd, Qs, Qu, QE, QI, Qne, ↓reduceIte, Qm5, Qm6, Nat.reduceAdd, Nat.reduceLT, Nat.reduceEqDiff, Qm4, Qnq, QW, QM, QmS, Qnm, QmU, Qm7, Qnb, T.Qmp, T.Qmq, ti24, zi24, f1, f4, f6]) | (with_reducible refine Qm ?_) | ((with_reducible refine hK _ ?_); clear hK))
    simp -implicitDefEqProofs only [Qg, ↓reduceIte, Qm5, Qm6, Nat.reduceAdd, Nat.reduceEqDiff, Qm4, Qnq, QmS, QmY, T.Qmp, T.Qmq, ti24, QG, QH, f4, T.Qmp, T.Qmq, QN, Qp, Qw, Qm2]
    exact Qd8 _ _ _ _ _ _
theorem Z1 : ∀ n, n ≤ 900000 → Rdr 49 (QaQ false n) n
  | 0, _ => fun l hl => absurd hl (Nat.not_lt_zero _)
  | n + 1, hn => by
    have H := Z1 n (by omega)
    have h1 := QgG H (Zx false n) (by omega)
    have e1 := (QdD false (Zx false n)).zero
    have h2 := QgM h1 e1 (by omega)
    exact QkR h2 (Qbj e1 2) (by omega)
end Go.Proofs.YtehjodmnajgdgaaGreatDoor.Ab
namespace Go.Proofs.YtehjodmnajgdgaaGreatDoor.Ab
theorem Qa1 {P : Program} {f : FuncId} {fn : Func} {id x : Nat} {t1 : TypeId} {p1 : String} {a1 : Array Edge} {rest : Code} {args : List AV} {h : AH} {Q : AH → Prop} (hf : P.funcs[f]? = some fn)
    (hb : fn.body = some (.seq (.region id #[{ dst := some x, op := .call ⟨.builtin .recover, #[], #[]⟩, type := t1, pos := p1, after := a1, guard := none }] false) rest))
    (hcall : ∀ vals w, (callFunc f vals).run P w = .ok (.enter f vals) w) {N : Nat} (hN : fn.ntmps = N) {rs : List ResultVar} (hrs : fn.results.toList = rs) (hn : args.length ≤ N) (hx : x < N) (m : AMode)
    (H : Yy P N rest (QN P rs h fun o h' => (∃ r, o = .ret r) ∧ Q h') ⟨upd (Qv args) x (recV m), h⟩) : ZV P f args h m fun m' h' => m' = recM m ∧ Q h' := by
  subst hN
  refine ⟨hcall, fun F n c vals u hF hro hs hh hvals hm => ?_⟩
  subst hh
  have hsr0 : SRd fn.ntmps c.w.heap.size c ⟨Qv args, c.h⟩ { tmps := vals ++ Array.replicate (fn.ntmps - vals.size) undef, defers := [] } [] := by
    refine ⟨rfl, by have := hvals.1; simp; omega, Nat.le_refl _, ⟨[], rfl, rfl, List.nodup_nil, fun e h => by cases h⟩, fun t => ?_⟩
    simp only [Qv]
    rw [Array.getD_eq_getD_getElem?, Array.getElem?_append, List.getD_eq_getElem?_getD]
    have hsz := hvals.1
    by_cases ht : t < vals.size
    · rw [if_pos ht]
      obtain ⟨u, hu⟩ : ∃ u, vals[t]? = some u := ⟨_, Array.getElem?_eq_getElem ht⟩
      obtain ⟨a, ha⟩ : ∃ a, args[t]? = some a := ⟨_, List.getElem?_eq_getElem (by omega)⟩
      rw [hu, ha]
      exact hvals.2 t a u ha hu
    · rw [if_neg ht, List.getElem?_eq_none (by omega), Array.getElem?_replicate]
      split
      · exact .v _
      · exact .v _
  -- what recover does to the frame below
  obtain ⟨rv, u2, hrel, hm2, hrec⟩ : ∃ (rv : Value) (u2 : FrameMode), Rel c (recV m) rv ∧ MdC c (recM m) u2 ∧ ∀ (c₀ : Frame) (cs : List Frame), c₀.mode = u →
      (recoverD (c₀ :: cs) = some (rv, { c₀ with mode := u2 } :: cs)) ∨ (recoverD (c₀ :: cs) = none ∧ rv = .nilIface ∧ ({ c₀ with mode := u2 } : Frame) = c₀) := by
    cases m with
    | ret =>
      obtain rfl : u = .returning := hm
      refine ⟨.nilIface, .returning, .v _, rfl, fun c₀ cs hu => .inr ⟨?_, rfl, by rw [← hu]⟩⟩
      simp only [recoverD, hu]
    | pan v b =>
      obtain ⟨xv, rfl, hv⟩ := hm
      cases b with
      | false =>
        refine ⟨xv, _, hv, ⟨xv, rfl, hv⟩, fun c₀ cs hu => .inl ?_⟩
        simp only [recoverD, hu]
      | true =>
        refine ⟨.nilIface, _, .v _, ⟨xv, rfl, hv⟩, fun c₀ cs hu => .inr ⟨?_, rfl, by rw [← hu]⟩⟩
        simp only [recoverD, hu]
  have hsr : SRd fn.ntmps c.w.heap.size c ⟨upd (Qv args) x (recV m), c.h⟩ ((⟨vals ++ Array.replicate (fn.ntmps - vals.size) undef, []⟩ : Act).put (some x) rv) [] := by
    have s1 := (hsr0.sr hro).put hs (Ev.refl c) (some x) hrel
    have s3 := hsr0.QmH hs (Ev.refl c) s1
    simp only [AS.put, if_pos hx] at s3
    exact s3
  refine (Qa0 (u2 := u2) (R := fun e w' => ∃ (o : AOut) (c' : Cx), ((∃ r, o = AOut.ret r) ∧ Q c'.h) ∧ Ev c c' ∧ St c' ∧ c'.w = w' ∧ EndC c' o e) hf hb (hF.fn f) (fun c₀ cs hu => ?_) hro).mono ?_
  · apply wpSIn_seq
    apply wpSIn_region
    have hput : ∀ cs', cs' = ({ c₀ with mode := u2 } : Frame) :: cs → rest.wpSIn F n P (fun e a' cs'' w' => cs'' = { c₀ with mode := u2 } :: cs ∧ bodyPostM F n P fn (fun e w' => ∃ (o : AOut) (c' : Cx), ((∃ r, o = AOut.ret r) ∧ Q c'.h) ∧ Ev c c' ∧ St c' ∧ c'.w = w' ∧ EndC c' o e) e a' w')
        ((⟨vals ++ Array.replicate (fn.ntmps - vals.size) undef, []⟩ : Act).put (some x) rv) cs' c.w := by
      rintro cs' rfl
      refine wpSIn_of_wpIn hro ?_
      refine XU (H.mono fun e s hq => (by cases e <;> exact hq : Qfj P rs c.h (fun o h' => (∃ r, o = AOut.ret r) ∧ Q h') e s [])) F n c.w.heap.size c _ hF hro hs hsr _ ?_
      intro e s' ds' c' a' e' hQ hev hst hr hex
      obtain ⟨es, e1, e2, e3, e4⟩ := hr.defs
      subst e2
      have hout : Out fn.ntmps c' s' a'.tmps := ⟨hr.h, hr.size, hr.tm⟩
      have key := fun (m : AMode) (u : FrameMode) (hm : MdC c' m u) (hnr : ∀ v, m ≠ .pan v true) H => e1 ▸ Qap (P := P) hF hro (n := n) (fn := fn) (tmps := a'.tmps) hrs (Q := fun o h' => (∃ r, o = AOut.ret r) ∧ Q h') hs es c' s' m u hev hst hout e3 e4 hm hnr H
      refine ⟨rfl, ?_⟩
      cases e with
      | normal => cases hex; exact key .ret .returning rfl (fun v h => by cases h) hQ
      | ret => cases hex; exact key .ret .returning rfl (fun v h => by cases h) hQ
      | panic av =>
        obtain ⟨x, rfl, hx⟩ := hex
        exact key (.pan av false) _ ⟨x, rfl, hx⟩ (fun v h => by cases h) hQ
      | exit id => exact hQ.elim
    show wpOpsSIn F n P _ _ [0] _ _ _
    rcases hrec c₀ cs hu with hr | ⟨hr, rfl, hc⟩
    · simp [wpOpsSIn, Region.wanted, execOp, go_sem, resolve, invoke, hr, hF.fn, Exit.thenS]
      exact hput _ rfl
    · simp [wpOpsSIn, Region.wanted, execOp, go_sem, resolve, invoke, hr, hF.fn, Exit.thenS]
      exact hput _ (by rw [hc])
  · rintro e u' w' ⟨rfl, o, c', ⟨⟨r, rfl⟩, hQ⟩, hev, hst', rfl, xx, rfl, hx'⟩
    exact ⟨xx, recM m, c', rfl, ⟨rfl, hQ⟩, hev, hst', rfl, hm2.ev hs hev⟩
end Go.Proofs.YtehjodmnajgdgaaGreatDoor.Ab
set_option maxRecDepth 4000
namespace Go.Proofs.YtehjodmnajgdgaaGreatDoor.Ab
open Go.Proofs
abbrev eE (e : Int) : AB := .cells 38 1 [.i e]
theorem Qj9 {h : AH} {k : Nat} {e0 : Int} (hk : h[k]? = some (eE e0)) : ZV Tryz.prog 84 [.ptr k 0 0] h .ret fun m' h' => m' = .ret ∧ h' = h := by
  refine ZV.mono (Qa1 (Q := fun h' => h' = h) Tryz.func84 rfl Tryz.call84 Tryz.ntmps84 (congrArg Array.toList Tryz.results84) (by simp) (by decide) .ret ?_) (fun m' h' q => q)
  have hn := Qha
  have hn2 : ∀ xo yo, pv Tryz.prog (do eqGuard .eql 20 xo yo .nilIface .nilIface; binOp .eql 20 .nilIface .nilIface) = some (.bool true) := fun xo yo => by
    cases xo <;> cases yo <;> kernel_rfl
  repeat (first | ((first | (with_reducible (first | refine Qa fun K E hK hE => ?_ | refine Qr fun K E hK hE => ?_))); simp -implicitDefEqProofs only [Qd, Qb, Qf, OpW, aop, AS.ev, Qc, Xh, Qg, ↓reduceIte, Nat.reduceLT, Nat.reduceEqDiff, aBin, QmU, recV, hn2]) | (with_reducible (first | refine Qq ?_ | refine QF ?_)) | ((with_reducible refine hK _ ?_); clear hK) | (refine Qk rfl ?_; simp only [↓reduceIte]))
  simp -implicitDefEqProofs only [QmU, QmY, List.mapM_nil, Option.pure_def, QmU, QN, Qp, Qm2]
  exact .inr ⟨⟨_, rfl⟩, rfl⟩
theorem QjE {h : AH} {k : Nat} {e0 : Int} (hk : h[k]? = some (eE e0)) (e : Int) : ZV Tryz.prog 84 [.ptr k 0 0] h (.pan (Err e) false) fun m' h' => m' = .pan (Err e) true ∧ h' = h.set k (eE e) := by
  refine ZV.mono (Qa1 (Q := fun h' => h' = h.set k (eE e)) Tryz.func84 rfl Tryz.call84 Tryz.ntmps84 (congrArg Array.toList Tryz.results84) (by simp) (by decide) (.pan (Err e) false) ?_) (fun m' h' q => q)
  have hn : ∀ H, notNil Tryz.prog 20 H (.ifc 38 (.i e)) .nilIface = true := fun H => by kernel_rfl
  have ha : QeQ Tryz.prog (.ifc 38 (.i e)) 20 38 true = some (.tup [.i e, .v (.bool true)]) := by kernel_rfl
  repeat (first | ((first | (with_reducible (first | refine Qa fun K E hK hE => ?_ | refine Qr fun K E hK hE => ?_))); simp -implicitDefEqProofs only [Qd, Qb, Qf, OpW, aop, undef, AS.ev, Qc, QL, Xh, Qg, Qv, QmZ, AV.Qmr, QT, Q7, Qnc, Qnd, Qs, Qne, ↓reduceIte, Qm5, Qm6, Nat.reduceLT, Nat.reduceEqDiff, Qm4, Qnq, QW, QM, aBin, Xs, QmS, QmT, Qnm, QmU, ti38, recV, Err, hn, ha, hk, eE]) | (with_reducible (first | refine Qq ?_ | refine QF ?_)) | ((with_reducible refine hK _ ?_); clear hK) | (refine Qk rfl ?_; simp only [↓reduceIte, QmW]))
  simp -implicitDefEqProofs only [QmU, QmY, List.mapM_nil, Option.pure_def, QmU, QN, Qp, Qm2]
  exact .inr ⟨⟨_, rfl⟩, rfl⟩
def Qbt (b : Bool) (r : List UInt8) : Int := if QV r ≠ [] then 16 else if b then 0 else 6
theorem QgB (l : List UInt8) (fv : AV) (hl : 16384 < l.length) (hm : l.length ≤ 9223372036854775807) : Pure Tryz.prog 47 [.v (.string (mkB l)), fv] (.i 6) := by
  intro h
  have hsl := fun b => Yf Tryz.prog 9 3 (by kernel_rfl) b
  have z1 : ((l.length : Nat) : Int) > 16384 := by omega
  refine ZK Tryz.func47 rfl Tryz.call47 Tryz.ntmps47 (congrArg Array.toList Tryz.results47) (by simp) ?_
  refine Yi (XU ?_)
  repeat (first | (((with_reducible refine Qr fun K E hK hE => ?_)); simp -implicitDefEqProofs only [Qd, Qb, Qf, OpW, aop, Qc, AV.Qmr, QT, Qnc, Qnd, Qs, Qne, ↓reduceIte, Qm5, Qm6, Nat.reduceLT, Qm4, zi38]) | ((with_reducible refine hK _ ?_); clear hK))
  show DefW _ _ _ _ _ _
  refine Yi (XU ?_)
  repeat (first | (((with_reducible refine Qa fun K E hK hE => ?_)); simp -implicitDefEqProofs only [Qd, Qb, Qf, OpW, aop, undef, AS.ev, Qc, QL, Qn, Qg, Qv, QmZ, AV.Qmr, QT, Q7, Qnc, Qnd, Qs, Qne, ↓reduceIte, Qm5, Qm6, Nat.reduceLT, Nat.reduceEqDiff, Qm4, Qnq, QW, QM, aBin, aLen, Q0, Ym, QmS, Qnm, QmU, Xr, goInt, Qno, ti38, hsl, XX, z1]) | (with_reducible refine Qm ?_) | ((with_reducible refine hK _ ?_); clear hK) | (refine Qk rfl ?_; simp only [↓reduceIte]))
  simp only [AExit.QmM, Qfj, Qc6]
  simp -implicitDefEqProofs only [Qg, QT, ↓reduceIte, Nat.reduceEqDiff, QG, QH, Q0, QmS, QmY, ti38, QN, Qp, Qw, Qm2]
  exact Qh (htake _ _) (.keep (.v _)) ⟨rfl, rfl⟩
theorem panQ {P : Program} {rs : List ResultVar} {h H : AH} {Q : AOut → AH → Prop} {tm : Nat → AV} {e : Int} {k : Nat} (hP : P = Tryz.prog) (hk : H[k]? = some (eE 0)) (hq : QN P rs h Q .ret ⟨tm, H.set k (eE e)⟩) :
    Qc6 P rs h Q [(84, [.ptr k 0 0])] (.pan (Err e) false) ⟨tm, H⟩ := by
  subst hP
  simp only [Qc6]
  refine ZV.mono (QjE hk e) ?_
  rintro m' h' ⟨rfl, rfl⟩
  exact hq
theorem retQ {P : Program} {rs : List ResultVar} {h H : AH} {Q : AOut → AH → Prop} {tm : Nat → AV} {e : Int} {k : Nat} (hP : P = Tryz.prog) (hk : H[k]? = some (eE e)) (hq : QN P rs h Q .ret ⟨tm, H⟩) :
    Qc6 P rs h Q [(84, [.ptr k 0 0])] .ret ⟨tm, H⟩ := by
  subst hP
  simp only [Qc6]
  refine ZV.mono (Qj9 hk) ?_
  rintro m' h' ⟨rfl, rfl⟩
  exact hq
section
variable {h : AH} {k : Nat} (hk : k < h.length) (x y : AB) (hy : y.Below h.length) (l : List UInt8) (fv : AV) (hl : l.length ≤ 16384)
include hk hy hl
theorem QiH (b : Bool) (r : List UInt8)
    (H : FunW Tryz.prog fv [.ptr (h.length + 1) 0 0] (hs h k x ++ [eE 0, rd l]) fun o h' => o = .ret (.b b) ∧ h' = hs h k y ++ [eE 0, rd r]) :
    Xf Tryz.prog 47 [.v (.string (mkB l)), fv] (hs h k x) fun o h' => o = .ret (.i (Qbt b r)) ∧ h' = hs h k y := by
  have _u := hk
  have f1 := fun x => Xw h k x
  have f4 := fun x L => Yg (h := h) (i := k) x L
  have f5 := fun x L j => Qaa (h := h) (i := k) x L j
  have f6 := fun x y L => X5 (h := h) (i := k) x y L
  have f7 := fun x y L j => YQ (h := h) (i := k) x y L j
  have hsl := fun b => Yf Tryz.prog 9 3 (by kernel_rfl) b
  have z1 : ¬ ((l.length : Nat) : Int) > 16384 := by omega
  have e3 : AB.cells 100 1 [.v (.string (mkB l))] = rd l := rfl
  have h1 : ∀ z : AB, h.length + 1 < (hs h k y ++ [eE 0, z]).length := fun z => by rw [List.length_append, Xw]; show h.length + 1 < h.length + 2; omega
  have e1 : ∀ z w : AB, hs (hs h k y ++ [eE 0, z]) (h.length + 1) w = hs h k y ++ [eE 0, w] := fun z w => by
    show List.set _ _ _ = _
    rw [f7]; rfl
  have cs := Qcq (h1 (rd r)) r []
  simp only [Qnl, e1] at cs
  have cy := fun n => Qad n
  have cn := fun n H => QbR n H
  have hz := QeT (QV r)
  have hget : (hs h k y ++ [eE 0, rd (QV r)])[h.length + 1]? = some (.cells 100 1 [.v (.string (mkB (QV r)))]) := by rw [f5]; rfl
  have hset : ∀ e, (hs h k y ++ [eE 0, rd (QV r)]).set h.length (eE e) = hs h k y ++ [eE e, rd (QV r)] := fun e => by rw [f6]; rfl
  have hEr : (hs h k y ++ [eE 0, rd (QV r)])[h.length]? = some (eE 0) := by rw [f4]; rfl
  refine ZK Tryz.func47 rfl Tryz.call47 Tryz.ntmps47 (congrArg Array.toList Tryz.results47) (by simp) ?_
  refine Yi (XU ?_)
  repeat (first | (((with_reducible refine Qr fun K E hK hE => ?_)); simp -implicitDefEqProofs only [Qd, Qb, Qf, OpW, aop, Qc, AV.Qmr, QT, Qnc, Qnd, Qs, Qne, ↓reduceIte, Qm5, Qm6, Nat.reduceLT, Qm4, zi38, f1]) | ((with_reducible refine hK _ ?_); clear hK))
  show DefW _ _ _ _ _ _
  refine Yi (XU ?_)
  repeat (first | (((with_reducible refine Qa fun K E hK hE => ?_)); simp -implicitDefEqProofs only [Qd, Qb, Qf, OpW, aop, undef, AS.ev, Qc, Qn, Qg, Qv, QmZ, ↓reduceIte, Nat.reduceLT, Nat.reduceEqDiff, aBin, aLen, QmU, Xr, goInt, Qnp, hsl, XX, z1]) | (with_reducible refine QD ?_) | ((with_reducible refine hK _ ?_); clear hK) | (refine Qk rfl ?_; simp only [↓reduceIte, QmW]))
  show DefW _ _ _ _ _ _
  refine Yi (QbJ 1 rfl rfl rfl ?_)
  simp -implicitDefEqProofs only [Qd, Qb, Qf, OpW, aop, undef, AS.ev, Qc, QL, Qg, ↓reduceIte, Nat.reduceAdd, Nat.reduceLT, Nat.reduceEqDiff, Qnr, Qm7, Qnb, Qnl, Qm3, Qna, Qm1, Qm9]
  refine ⟨_, _, _, rfl, ?_⟩
  show DefW _ _ _ _ _ _
  refine Yi (XU ?_)
  repeat (first | (((with_reducible refine Qr fun K E hK hE => ?_)); simp -implicitDefEqProofs only [Qd, Qb, Qf, OpW, aop, undef, AS.ev, Qc, Qg, Qv, QmZ, AV.Qmr, Qo, QT, QB, Qnc, Qnd, Qu, Qne, ↓reduceIte, Qm5, Qm6, Nat.reduceLT, Nat.reduceLeDiff, Nat.reduceEqDiff, Qm4, Qnq, Xn, XE, hlen, happ, QmS, QmU, Qm7, Qnb, Qnk, Qnj, Qnl, Qna, Qm1, Qm9, QlT, Ql1, f1]) | ((with_reducible refine hK _ ?_); clear hK))
  show DefW _ _ _ _ _ _
  refine Yi (XU ?_)
  refine Qbx (h.length + 1) 100 1 [.agg [.v (.string (mkB l))]] [.v (.string (mkB l))] (by simp only [f5]; rfl) (by intro x hx; simp at hx; subst hx; rfl) (.cons (.refl _) .nil) ?_
  simp only [f7, Qnn, Qnm, e3]
  repeat (first | ((first | (with_reducible (first | refine Qr fun K E hK hE => ?_ | refine FunW.ret H ?_))); simp -implicitDefEqProofs only [Qd, Qb, Qf, OpW, QQ, aop, undef, AS.ev, Qc, Qg, Qv, QmZ, Qni, ↓reduceIte, Nat.reduceLT, Nat.reduceEqDiff, Qm7, Qnb]) | ((with_reducible refine hK _ ?_); clear hK))
  show DefW _ _ _ _ _ _
  refine Yi (XU ?_)
  repeat (first | ((first | (with_reducible (first | refine Qr fun K E hK hE => ?_ | refine FunW.ret (FunW.call cs) ?_))); simp -implicitDefEqProofs only [Qd, Qb, Qf, OpW, QQ, aop, AS.ev, Qc, Qg, ↓reduceIte, Nat.reduceLT, Nat.reduceEqDiff, Qm7, Qnb]) | ((with_reducible refine hK _ ?_); clear hK))
  show DefW _ _ _ _ _ _
  refine Yi (XU ?_)
  by_cases hsk : QV r = []
  · rw [decide_eq_true hsk] at hz
    repeat (first | ((first | (with_reducible (first | refine Qr fun K E hK hE => ?_ | refine Qz (cy 16) ?_))); simp -implicitDefEqProofs only [Qd, Qb, Qf, OpW, QQ, aop, AS.ev, Qc, Qn, QO, Qg, QT, ↓reduceIte, Nat.reduceLT, Nat.reduceEqDiff, Qnh, Ql, QG, QH, aBin, QmS, QmU, Qm7, Qnb, QY, ti9, Yb, QC, hget, hz]) | ((with_reducible refine hK _ ?_); clear hK))
    show DefW _ _ _ _ _ _
    cases b with
    | true =>
      refine Yi (XU ?_)
      repeat (first | ((first | (with_reducible (first | refine Qr fun K E hK hE => ?_ | refine Qz (cy 6) ?_))); simp -implicitDefEqProofs only [Qd, Qb, Qf, OpW, QQ, aop, AS.ev, Qc, Qn, Qg, ↓reduceIte, Nat.reduceLT, Nat.reduceEqDiff, Qm7, Qnb]) | ((with_reducible refine hK _ ?_); clear hK))
      show DefW _ _ _ _ _ _
      refine XU ?_
      repeat (first | (((with_reducible refine Qa fun K E hK hE => ?_)); simp -implicitDefEqProofs only [Qd, Qb, Qf, OpW, aop, undef, AS.ev, QL, Qn, Qg, AV.Qmr, QT, Q7, Qnc, Qnd, Qs, Qne, ↓reduceIte, Qm5, Qm6, Nat.reduceEqDiff, Qm4, Qnq, QW, QM, QmS, Qnm, QmU, ti38, hset, hEr]) | (with_reducible refine Qm ?_) | ((with_reducible refine hK _ ?_); clear hK))
      simp only [Qfj]
      refine retQ (e := 0) rfl (by first | exact hEr | (rw [f4]; rfl)) ?_
      simp -implicitDefEqProofs only [Qg, QT, ↓reduceIte, Nat.reduceEqDiff, QG, QH, QmS, QmY, ti38, QG, QH, f4, QN, Qp, Qw, Qm2]
      refine Xa hy (.keep (.v _)) ⟨?_, rfl⟩
      rw [Qbt, if_neg (by simp [hsk])]; rfl
    | false =>
      refine Yi (XU ?_)
      repeat (first | ((first | (with_reducible (first | refine Qr fun K E hK hE => ?_ | refine FunW.pan (FunW.call (cn 6 _)) ?_))); simp -implicitDefEqProofs only [Qb, Qf, OpW, QQ, aop, AS.ev, Qc, Qn, Qg, ↓reduceIte, Nat.reduceLT, Nat.reduceEqDiff, Qm7, Qnb]) | (with_reducible refine hE _ _ ?_))
      simp only [AExit.QmM, Qfj]
      refine panQ rfl hEr ?_
      rw [hset]
      simp -implicitDefEqProofs only [Qg, QT, ↓reduceIte, Nat.reduceEqDiff, QG, QH, QmS, QmY, ti38, QG, QH, f4, QN, Qp, Qw, Qm2]
      refine Xa hy (.keep (.v _)) ⟨?_, rfl⟩
      rw [Qbt, if_neg (by simp [hsk])]; rfl
  · rw [decide_eq_false hsk] at hz
    repeat (first | ((first | (with_reducible (first | refine Qr fun K E hK hE => ?_ | refine FunW.pan (FunW.call (cn 16 _)) ?_))); simp -implicitDefEqProofs only [Qb, Qf, OpW, QQ, aop, AS.ev, Qc, Qn, QO, Qg, QT, ↓reduceIte, Nat.reduceLT, Nat.reduceEqDiff, Qnh, Ql, QG, QH, aBin, QmS, QmU, Qm7, Qnb, QY, ti9, Yb, QC, hget, hz]) | (with_reducible refine hE _ _ ?_))
    simp only [AExit.QmM, Qfj]
    refine panQ rfl hEr ?_
    rw [hset]
    simp -implicitDefEqProofs only [Qg, QT, ↓reduceIte, Nat.reduceEqDiff, QG, QH, QmS, QmY, ti38, QG, QH, f4, QN, Qp, Qw, Qm2]
    refine Xa hy (.keep (.v _)) ⟨?_, rfl⟩
    rw [Qbt, if_pos hsk]
theorem QhG (e : Int) (hx : x.Below h.length)
    (H : FunW Tryz.prog fv [.ptr (h.length + 1) 0 0] (hs h k x ++ [eE 0, rd l]) fun o h' => o = .panic (Err e) ∧ ∃ r, h' = hs h k x ++ [eE 0, rd r]) :
    Xf Tryz.prog 47 [.v (.string (mkB l)), fv] (hs h k x) fun o h' => o = .ret (.i e) ∧ h' = hs h k x := by
  have _u := hk
  have _w := hy
  have f1 := fun x => Xw h k x
  have f4 := fun x L => Yg (h := h) (i := k) x L
  have f5 := fun x L j => Qaa (h := h) (i := k) x L j
  have f6 := fun x y L => X5 (h := h) (i := k) x y L
  have f7 := fun x y L j => YQ (h := h) (i := k) x y L j
  have hsl := fun b => Yf Tryz.prog 9 3 (by kernel_rfl) b
  have z1 : ¬ ((l.length : Nat) : Int) > 16384 := by omega
  have e3 : AB.cells 100 1 [.v (.string (mkB l))] = rd l := rfl
  refine ZK Tryz.func47 rfl Tryz.call47 Tryz.ntmps47 (congrArg Array.toList Tryz.results47) (by simp) ?_
  refine Yi (XU ?_)
  repeat (first | (((with_reducible refine Qr fun K E hK hE => ?_)); simp -implicitDefEqProofs only [Qd, Qb, Qf, OpW, aop, Qc, AV.Qmr, QT, Qnc, Qnd, Qs, Qne, ↓reduceIte, Qm5, Qm6, Nat.reduceLT, Qm4, zi38, f1]) | ((with_reducible refine hK _ ?_); clear hK))
  show DefW _ _ _ _ _ _
  refine Yi (XU ?_)
  repeat (first | (((with_reducible refine Qa fun K E hK hE => ?_)); simp -implicitDefEqProofs only [Qd, Qb, Qf, OpW, aop, undef, AS.ev, Qc, Qn, Qg, Qv, QmZ, ↓reduceIte, Nat.reduceLT, Nat.reduceEqDiff, aBin, aLen, QmU, Xr, goInt, Qnp, hsl, XX, z1]) | (with_reducible refine QD ?_) | ((with_reducible refine hK _ ?_); clear hK) | (refine Qk rfl ?_; simp only [↓reduceIte, QmW]))
  show DefW _ _ _ _ _ _
  refine Yi (QbJ 1 rfl rfl rfl ?_)
  simp -implicitDefEqProofs only [Qd, Qb, Qf, OpW, aop, undef, AS.ev, Qc, QL, Qg, ↓reduceIte, Nat.reduceAdd, Nat.reduceLT, Nat.reduceEqDiff, Qnr, Qm7, Qnb, Qnl, Qm3, Qna, Qm1, Qm9]
  refine ⟨_, _, _, rfl, ?_⟩
  show DefW _ _ _ _ _ _
  refine Yi (XU ?_)
  repeat (first | (((with_reducible refine Qr fun K E hK hE => ?_)); simp -implicitDefEqProofs only [Qd, Qb, Qf, OpW, aop, undef, AS.ev, Qc, Qg, Qv, QmZ, AV.Qmr, Qo, QT, QB, Qnc, Qnd, Qu, Qne, ↓reduceIte, Qm5, Qm6, Nat.reduceLT, Nat.reduceLeDiff, Nat.reduceEqDiff, Qm4, Qnq, Xn, XE, hlen, happ, QmS, QmU, Qm7, Qnb, Qnk, Qnj, Qnl, Qna, Qm1, Qm9, QlT, Ql1, f1]) | ((with_reducible refine hK _ ?_); clear hK))
  show DefW _ _ _ _ _ _
  refine Yi (XU ?_)
  refine Qbx (h.length + 1) 100 1 [.agg [.v (.string (mkB l))]] [.v (.string (mkB l))] (by simp only [f5]; rfl) (by intro x hx; simp at hx; subst hx; rfl) (.cons (.refl _) .nil) ?_
  simp only [f7, Qnn, Qnm, e3]
  repeat (first | ((first | (with_reducible (first | refine Qr fun K E hK hE => ?_ | refine FunW.panE H fun r => ?_))); simp -implicitDefEqProofs only [Qb, Qf, OpW, QQ, aop, undef, AS.ev, Qc, Qg, Qv, QmZ, Qni, ↓reduceIte, Nat.reduceLT, Nat.reduceEqDiff, Qm7, Qnb]) | (with_reducible refine hE _ _ ?_))
  simp only [AExit.QmM, Qfj]
  refine panQ rfl (by rw [f4]; rfl) ?_
  rw [f6]
  simp -implicitDefEqProofs only [Qg, QT, ↓reduceIte, Nat.reduceEqDiff, QG, QH, QmS, Qnm, QmY, ti38, QG, QH, f4, QN, Qp, Qw, Qm2]
  exact Xa hx (.keep (.v _)) ⟨rfl, rfl⟩
end
end Go.Proofs.YtehjodmnajgdgaaGreatDoor.Ab
set_option maxRecDepth 4000
namespace Go.Proofs.YtehjodmnajgdgaaGreatDoor.Ab
open Go.Proofs
def EP {α : Type} (x : Res α) : Prop := ∀ e, x = .err e → 0 < e
theorem ZW {α : Type} {e : Int} (h : 0 < e) : EP (.err e : Res α) := fun e' h' => by cases h'; exact h
theorem QdF {α : Type} (a : α) (r : List UInt8) : EP (.ok a r) := fun e' h' => by cases h'
theorem Qir {α : Type} {x : Res α} {e : Int} (H : EP x) (h : x = .err e) : EP (.err e : Res α) := fun e' h' => H e' (h.trans h')
theorem QiC {α β : Type} {e : Int} (H : EP (.err e : Res α)) : EP (.err e : Res β) := fun e' h' => by cases h'; exact H _ rfl
theorem Qlk (s : Bool) (sign : Int) (l : List UInt8) : EP (pInt s sign l) := by
  cases l with
  | nil => exact ZW (by decide)
  | cons c r =>
    rw [pInt]
    split
    · split
      · exact ZW (by decide)
      · exact QdF _ _
    · split
      · exact QdF _ _
      · exact ZW (by decide)
theorem QiT {ex : List UInt8 → Res T} (H : ∀ l, EP (ex l)) : ∀ (m : Nat) (ls : List T) (r : List UInt8), EP (ZZ ex m ls r)
  | 0, _, _ => ZW (by decide)
  | m + 1, ls, r => by
    rw [ZZ]
    cases QV r with
    | nil => exact ZW (by decide)
    | cons c r2 =>
      simp only
      split
      · cases h : ex r2 with
        | ok t r3 => exact QiT H m _ _
        | err e => exact QiC (Qir (H r2) h)
      · split
        · exact QdF _ _
        · exact ZW (by decide)
theorem Qlp {ex : List UInt8 → Res T} (H : ∀ l, EP (ex l)) (r : List UInt8) : EP (Qaw ex r) := by
  rw [Qaw]
  cases QV r with
  | nil => exact QdF _ _
  | cons c r2 =>
    simp only
    split
    · cases h : ex r2 with
      | ok t r3 => exact QiT H _ _ _
      | err e => exact QiC (Qir (H r2) h)
    · exact QdF _ _
theorem Qkd {ex : List UInt8 → Res T} (H : ∀ l, EP (ex l)) (r : List UInt8) : EP (Z8 ex r) := by
  rw [Z8]
  split
  · split
    · exact QdF _ _
    · exact ZW (by decide)
  · split
    · cases h : Qaw ex (r.dropWhile isW) with
      | ok t r3 => exact QdF _ _
      | err e => exact QiC (Qir (Qlp H _) h)
    · exact ZW (by decide)
theorem QlD {s : Bool} {ex : List UInt8 → Res T} (H : ∀ l, EP (ex l)) (r : List UInt8) : EP (QbM s ex r) := by
  rw [QbM]
  cases QV r with
  | nil => exact ZW (by decide)
  | cons c r2 =>
    simp only
    split
    · exact Qlk _ _ _
    · split
      · split
        · exact Qlk _ _ _
        · exact ZW (by decide)
      · split
        · exact Qkd H _
        · split
          · cases h : ex r2 with
            | ok t r3 =>
              simp only
              split
              · split
                · exact QdF _ _
                · exact ZW (by decide)
              · exact ZW (by decide)
            | err e => exact QiC (Qir (H r2) h)
          · exact ZW (by decide)
theorem Qf6 {op : List UInt8 → Res T} (H : ∀ l, EP (op l)) (st : Int) : ∀ (m : Nat) (t : T) (r : List UInt8), EP (YT op st m t r)
  | 0, _, _ => QdF _ _
  | m + 1, t, r => by
    rw [YT]
    cases QV r with
    | nil => exact QdF _ _
    | cons c r2 =>
      simp only
      split
      · cases h : op r2 with
        | ok t r3 => exact Qf6 H st m _ _
        | err e => exact QiC (Qir (H r2) h)
      · exact QdF _ _
theorem QhP {op : List UInt8 → Res T} (H : ∀ l, EP (op l)) (st : Int) (r : List UInt8) : EP (chain op st r) := by
  rw [chain]
  cases h : op r with
  | ok t r2 => exact Qf6 H st _ _ _
  | err e => exact QiC (Qir (H r) h)
theorem QgS (s : Bool) : ∀ n l, EP (QaQ s n l)
  | 0, l => ZW (by decide)
  | n + 1, l => QhP (QhP (QlD (QgS s n)) 2) 1 l
abbrev z4 : AV := .agg [.i 0, .i 0, .v (.string { data := #[] }), .v (.slice none 0 0)]
abbrev cT (x : AV) : AB := .cells 24 4 [x]
abbrev cA (x : AV) : AB := .cells 34 2 [x]
theorem Qk6 (n : Nat) (t : T) : (cT t.av).Below n := by
  intro a ha
  exact QaN n [t] a ha
section
variable {h : AH} {k : Nat} (hk : k < h.length) (x : AB) (l : List UInt8) (n : Nat) (hn : n ≤ 900000) (hln : l.length < n) (hT : Tabs (hs h k (cT z4) ++ [eE 0, rd l]))
include hk hn hln hT
theorem QjH {t : T} {r : List UInt8} (hp : QaQ false n l = .ok t r) :
    Xf Tryz.prog 48 [.ptr (h.length + 1) 0 0, .ptr k 0 0] (hs h k (cT z4) ++ [eE 0, rd l]) fun o h' => o = .ret (.b t.Qmx) ∧ h' = hs h k (cT t.av) ++ [eE 0, rd r] := by
  have f1 := fun x => Xw h k x
  have f2 := fun x L => Qbd (h := h) hk x L
  have f3 := fun x y L => Qcm (h := h) hk x y L
  have h1 : h.length + 1 < (hs h k (cT z4) ++ [eE 0, rd l]).length := by rw [List.length_append, Xw]; show h.length + 1 < h.length + 2; omega
  have e1 : ∀ z w : AB, hs (hs h k (cT z4) ++ [eE 0, z]) (h.length + 1) w = hs h k (cT z4) ++ [eE 0, w] := fun z w => by
    show List.set _ _ _ = _
    rw [YQ]; rfl
  have cE := Z1 n hn l hln (hs h k (cT z4) ++ [eE 0, rd l]) (h.length + 1) h1 (by rw [e1]; exact hT)
  rw [hp, e1] at cE
  have cE' := cE.mono (fun o h' q => by simpa only [RQ, e1] using q : ∀ o h', _ → (o = .ret t.av ∧ h' = hs h k (cT z4) ++ [eE 0, rd r]))
  have cR := Qd6 t
  refine Qe Tryz.func48 rfl Tryz.call48 Tryz.ntmps48 (congrArg Array.toList Tryz.results48) (by simp) ?_
  repeat (first | ((first | (with_reducible (first | refine Qa fun K E hK hE => ?_ | refine Qz cR ?_ | refine FunW.ret (FunW.call cE') ?_))); simp -implicitDefEqProofs only [Qd, Qb, Qf, OpW, QQ, aop, undef, AS.ev, Qc, QL, Qt, Qg, Qv, QmZ, Qni, AV.Qmr, Qo, QB, Qnc, Qnd, Qs, Qu, QI, Qne, ↓reduceIte, Qm5, Qm6, Nat.reduceAdd, Nat.reduceLT, Nat.reduceEqDiff, Qm4, Qnq, QG, QH, QW, QM, QmS, Qnm, QmU, Qm7, Qnb, T.Qmp, T.Qmq, ti24, f2, f3, T.Qmp, T.Qmq]) | (with_reducible refine Qm ?_) | ((with_reducible refine hK _ ?_); clear hK))
  simp -implicitDefEqProofs only [Qg, ↓reduceIte, QmY, QN, Qp, Qw, Qm2]
  exact .inr ⟨rfl, rfl⟩
theorem Qit {e : Int} (hp : QaQ false n l = .err e) :
    Xf Tryz.prog 48 [.ptr (h.length + 1) 0 0, .ptr k 0 0] (hs h k (cT z4) ++ [eE 0, rd l]) fun o h' => o = .panic (Err e) ∧ ∃ r, h' = hs h k (cT z4) ++ [eE 0, rd r] := by
  have _u := hk
  have f1 := fun x => Xw h k x
  have h1 : h.length + 1 < (hs h k (cT z4) ++ [eE 0, rd l]).length := by rw [List.length_append, Xw]; show h.length + 1 < h.length + 2; omega
  have e1 : ∀ z w : AB, hs (hs h k (cT z4) ++ [eE 0, z]) (h.length + 1) w = hs h k (cT z4) ++ [eE 0, w] := fun z w => by
    show List.set _ _ _ = _
    rw [YQ]; rfl
  have cE := Z1 n hn l hln (hs h k (cT z4) ++ [eE 0, rd l]) (h.length + 1) h1 (by rw [e1]; exact hT)
  rw [hp, e1] at cE
  have cE' := cE.mono (fun o h' q => by simpa only [RQ, e1] using q : ∀ o h', _ → (o = .panic (Err e) ∧ ∃ r, h' = hs h k (cT z4) ++ [eE 0, rd r]))
  refine Qe Tryz.func48 rfl Tryz.call48 Tryz.ntmps48 (congrArg Array.toList Tryz.results48) (by simp) ?_
  repeat (first | ((first | (with_reducible (first | refine Qa fun K E hK hE => ?_ | refine FunW.panE (FunW.call cE') fun r => ?_))); simp -implicitDefEqProofs only [Qd, Qb, Qf, OpW, QQ, aop, undef, AS.ev, Qc, Qt, Qg, Qv, QmZ, ↓reduceIte, Nat.reduceLT, Nat.reduceEqDiff, Qm7, Qnb]) | ((with_reducible refine hK _ ?_); clear hK) | (with_reducible refine hE _ _ ?_))
  exact .inr ⟨rfl, _, rfl⟩
end
def tRes : Res T → AV
  | .ok t _ => .tup [t.av, .i 0]
  | .err e => .tup [(T.mk 0 0 eB []).av, .i e]
theorem cT_z (n : Nat) : (cT z4).Below n := by
  intro a ha
  simp only [flat, List.flatMap_cons, List.flatMap_nil, Qnl, AV.cells, List.mem_cons, List.not_mem_nil, or_false] at ha
  rcases ha with rfl | rfl | rfl | rfl <;> exact .v _
theorem Qer (H : AH) (m : Nat) (e : Int) : Frz H m (.tup [z4, .i e]) (.tup [(T.mk 0 0 eB []).av, .i e]) :=
  .tup rfl (Xd (.agg rfl (Xd (.keep (.v _)) (Xd (.keep (.v _)) (Xd (.keep (.v _)) (XS (.nil 4)))))) (XS (.keep (.v _))))
theorem Qbl (l : List UInt8) (hm : l.length ≤ 9223372036854775807) (h : AH) (hT : Tabs h) : Xf Tryz.prog 18 [.v (.string (mkB l))] h fun o h' => o = .ret (tRes (QaO false l)) ∧ h' = h := by
  by_cases hl : 16384 < l.length
  · have c1 := fun fv => QgB l fv hl hm
    have z1 : ((6 : Int) != 0) = true := by decide
    rw [QaO, if_pos hl]
    refine Qe Tryz.func18 rfl Tryz.call18 Tryz.ntmps18 (congrArg Array.toList Tryz.results18) (by simp) ?_
    repeat (first | ((first | (with_reducible (first | refine Qa fun K E hK hE => ?_ | refine Qz (c1 _) ?_))); simp -implicitDefEqProofs only [Qd, Qb, Qf, OpW, QQ, aop, undef, AS.ev, Qc, QL, Qn, Qg, Qv, QmZ, AV.Qmr, Qo, QB, Qnc, Qnd, Qs, Qu, QE, Qne, ↓reduceIte, Qm5, Qm6, Nat.reduceAdd, Nat.reduceLT, Nat.reduceEqDiff, Qm4, Qnq, QW, QM, aBin, Xn, XE, Q0, Ym, hlen, happ, QmS, Qnm, QmU, Qm7, Qnb, Qnk, Qnj, Q2, ti24, zi24, sp24, z1]) | (with_reducible (first | refine Qi fun K hK => ?_ | refine Qm ?_ | refine QA ?_)) | ((with_reducible refine hK _ ?_); clear hK) | (refine Qk rfl ?_; simp only [↓reduceIte]))
    simp -implicitDefEqProofs only [Qg, Qo, QB, ↓reduceIte, Qm5, Qm6, Nat.reduceAdd, Nat.reduceEqDiff, Qm4, Qnq, QG, QH, Q0, QmS, QmU, QmX, QmY, ti24, List.mapM_cons, List.mapM_nil, Option.pure_def, Option.bind_eq_bind, QG, QH, Q0, QN, Qp, Qw, Qm2]
    exact Qh (htake _ _) (Qer _ _ _) ⟨rfl, rfl⟩
  · have hk : h.length + 1 < (h ++ [cT z4, cT z4]).length := by rw [List.length_append]; show h.length + 1 < h.length + 2; omega
    have e0 : hs (h ++ [cT z4, cT z4]) (h.length + 1) (cT z4) = h ++ [cT z4, cT z4] := QeP (by rw [hget]; rfl)
    have e2 : ∀ x, hs (h ++ [cT z4, cT z4]) (h.length + 1) (cT x) = h ++ [cT z4, cT x] := fun x => by
      show List.set _ _ _ = _
      rw [hset]; rfl
    have hT2 : Tabs (hs (h ++ [cT z4, cT z4]) (h.length + 1) (cT z4) ++ [eE 0, rd l]) := by rw [e0]; exact (hT.app _).app _
    rw [QaO, if_neg hl]
    cases hp : QaQ false (l.length + 1) l with
    | err e =>
      have he : 0 < e := QgS false _ _ e hp
      have z1 : (e != 0) = true := by simp; omega
      have c1 := Qit hk l (l.length + 1) (by omega) (by omega) hT2 hp
      have c2 := QhG hk (cT z4) (cT z4) (cT_z _) l (.fn (.func 48) [] [.ptr (h.length + 1) 0 0]) (by omega) e (cT_z _) (FunW.fn (show Xf _ _ ([] ++ [_] ++ [_]) _ _ from c1))
      rw [e0] at c2
      refine Qe Tryz.func18 rfl Tryz.call18 Tryz.ntmps18 (congrArg Array.toList Tryz.results18) (by simp) ?_
      repeat (first | ((first | (with_reducible (first | refine Qa fun K E hK hE => ?_ | refine FunW.ret (FunW.call c2) ?_))); simp -implicitDefEqProofs only [Qd, Qb, Qf, OpW, QQ, aop, undef, AS.ev, Qc, QL, Qn, Qg, Qv, QmZ, AV.Qmr, Qo, QB, Qnc, Qnd, Qs, Qu, QE, Qne, ↓reduceIte, Qm5, Qm6, Nat.reduceAdd, Nat.reduceLT, Nat.reduceEqDiff, Qm4, Qnq, QW, QM, aBin, Xn, XE, Q0, Ym, hlen, happ, QmS, Qnm, QmU, Qm7, Qnb, Qnk, Qnj, Q2, ti24, zi24, sp24, z1]) | (with_reducible (first | refine Qi fun K hK => ?_ | refine Qm ?_ | refine QA ?_)) | ((with_reducible refine hK _ ?_); clear hK) | (refine Qk rfl ?_; simp only [↓reduceIte]))
      simp -implicitDefEqProofs only [Qg, Qo, QB, ↓reduceIte, Qm5, Qm6, Nat.reduceAdd, Nat.reduceEqDiff, Qm4, Qnq, QG, QH, Q0, QmS, QmU, QmX, QmY, ti24, List.mapM_cons, List.mapM_nil, Option.pure_def, Option.bind_eq_bind, QG, QH, Q0, QN, Qp, Qw, Qm2]
      exact Qh (htake _ _) (Qer _ _ _) ⟨rfl, rfl⟩
    | ok t r =>
      have c1 := QjH hk l (l.length + 1) (by omega) (by omega) hT2 hp
      have c2 := QiH hk (cT z4) (cT t.av) (Qk6 _ t) l (.fn (.func 48) [] [.ptr (h.length + 1) 0 0]) (by omega) t.Qmx r (FunW.fn (show Xf _ _ ([] ++ [_] ++ [_]) _ _ from c1))
      rw [e0, e2] at c2
      simp only
      have hR : tRes (if QV r ≠ [] then Res.err 16 else if (t.run 200 20).1 = true then .ok t [] else .err 6) = if Qbt t.Qmx r ≠ 0 then .tup [(T.mk 0 0 eB []).av, .i (Qbt t.Qmx r)] else .tup [t.av, .i 0] := by
        rw [Qbt, T.Qmx]
        by_cases h1 : QV r ≠ []
        · rw [if_pos h1, if_pos h1]; rfl
        · rw [if_neg h1, if_neg h1]
          cases (t.run 200 20).1 <;> rfl
      rw [hR]
      by_cases h0 : Qbt t.Qmx r ≠ 0
      · have z1 : (Qbt t.Qmx r != 0) = true := by simpa using h0
        rw [if_pos h0]
        refine Qe Tryz.func18 rfl Tryz.call18 Tryz.ntmps18 (congrArg Array.toList Tryz.results18) (by simp) ?_
        repeat (first | ((first | (with_reducible (first | refine Qa fun K E hK hE => ?_ | refine FunW.ret (FunW.call c2) ?_))); simp -implicitDefEqProofs only [Qd, Qb, Qf, OpW, QQ, aop, undef, AS.ev, Qc, QL, Qn, Qg, Qv, QmZ, AV.Qmr, Qo, QB, Qnc, Qnd, Qs, Qu, QE, Qne, ↓reduceIte, Qm5, Qm6, Nat.reduceAdd, Nat.reduceLT, Nat.reduceEqDiff, Qm4, Qnq, QW, QM, aBin, Xn, XE, Q0, Ym, hlen, happ, QmS, Qnm, QmU, Qm7, Qnb, Qnk, Qnj, Q2, ti24, zi24, sp24, z1]) | (with_reducible (first | refine Qi fun K hK => ?_ | refine Qm ?_ | refine QA ?_)) | ((with_reducible refine hK _ ?_); clear hK) | (refine Qk rfl ?_; simp only [↓reduceIte]))
        simp -implicitDefEqProofs only [Qg, Qo, QB, ↓reduceIte, Qm5, Qm6, Nat.reduceAdd, Nat.reduceEqDiff, Qm4, Qnq, QG, QH, Q0, QmS, QmU, QmX, QmY, ti24, List.mapM_cons, List.mapM_nil, Option.pure_def, Option.bind_eq_bind, QG, QH, Q0, QN, Qp, Qw, Qm2]
        exact Qh (htake _ _) (Qer _ _ _) ⟨rfl, rfl⟩
      · have z1 : (Qbt t.Qmx r != 0) = false := by simpa using h0
        rw [if_neg h0]
        refine Qe Tryz.func18 rfl Tryz.call18 Tryz.ntmps18 (congrArg Array.toList Tryz.results18) (by simp) ?_
        repeat (first | ((first | (with_reducible (first | refine Qa fun K E hK hE => ?_ | refine FunW.ret (FunW.call c2) ?_))); simp -implicitDefEqProofs only [Qd, Qb, Qf, OpW, QQ, aop, undef, AS.ev, Qc, QL, Qn, Qg, Qv, QmZ, AV.Qmr, Qo, QB, Qnc, Qnd, Qs, Qu, QE, QI, Qne, ↓reduceIte, Qm5, Qm6, Nat.reduceAdd, Nat.reduceLT, Nat.reduceEqDiff, Qm4, Qnq, QG, QH, QW, QM, aBin, Q0, hget, Ym, hlen, happ, QmS, QmT, Qnm, QmU, Qm7, Qnb, Qnk, Qnj, Q2, T.Qmp, T.Qmq, ti24, zi24, z1, T.Qmp, T.Qmq]) | (with_reducible (first | refine Qi fun K hK => ?_ | refine Qm ?_ | refine QD ?_ | refine Qj ?_)) | ((with_reducible refine hK _ ?_); clear hK) | (refine Qk rfl ?_; simp only [↓reduceIte, QmW]))
        simp -implicitDefEqProofs only [Qg, ↓reduceIte, Qm5, Qm6, Nat.reduceAdd, Nat.reduceEqDiff, Qm4, Qnq, QG, QH, Q0, QmS, QmU, QmX, QmY, T.Qmp, T.Qmq, ti24, List.mapM_cons, List.mapM_nil, Option.pure_def, Option.bind_eq_bind, QG, QH, Q0, T.Qmp, T.Qmq, QN, Qp, Qw, Qm2]
        exact Qh (htake _ _) (.tup rfl (Xd (.keep (T.Qmu _ t)) (XS (.keep (.v _))))) ⟨rfl, rfl⟩
end Go.Proofs.YtehjodmnajgdgaaGreatDoor.Ab
set_option maxRecDepth 4000
namespace Go.Proofs.YtehjodmnajgdgaaGreatDoor.Ab
open Go.Proofs
abbrev z2 : AV := .agg [.v (.string { data := #[] }), .v (.slice none 0 0)]
theorem QhA (n : Nat) (g : G) : (cA g.atom).Below n := by
  intro a ha
  exact QbX n g a (by simpa [flat] using ha)
theorem cA_z (n : Nat) : (cA z2).Below n := by
  intro a ha
  simp only [flat, List.flatMap_cons, List.flatMap_nil, Qnl, AV.cells, List.mem_cons, List.not_mem_nil, or_false] at ha
  rcases ha with rfl | rfl <;> exact .v _
def Qfz (n : Nat) (l : List UInt8) : Res T := match QV l with
  | [] => .err 16
  | c :: r => if 97 ≤ c.toNat ∧ c.toNat ≤ 122 then Z8 (QaQ false n) (c :: r) else .err 16
def T.g (t : T) : G := ⟨0, t.name, t.args⟩
theorem Qk4 (n : Nat) (l : List UInt8) : EP (Qfz n l) := by
  rw [Qfz]
  cases QV l with
  | nil => exact ZW (by decide)
  | cons c r =>
    simp only
    split
    · exact Qkd (QgS false n) _
    · exact ZW (by decide)
theorem Qg2 {c : UInt8} (h : 97 ≤ c.toNat ∧ c.toNat ≤ 122) : isL c = true := by
  rw [isL, decide_eq_true (.inl h)]
theorem Qmb {h : AH} {k : Nat} (hk : k < h.length) (l : List UInt8) (x : AB) (r : List UInt8) : hs h k x ++ [eE 0, rd r] = hs2 (h ++ [eE 0, rd l]) k x (h.length + 1) (rd r) := by
  simp only [hs2, List.set_append_left _ _ hk]
  show _ = (hs h k x ++ [eE 0, rd l]).set (h.length + 1) (rd r)
  rw [YQ]; rfl
section
variable {h : AH} {k : Nat} (hk : k < h.length) (l : List UInt8) (n : Nat) (hn : n ≤ 900000) (hln : l.length < n) (hT : Tabs (hs h k (cA z2) ++ [eE 0, rd l]))
include hk hn hln hT
theorem Qh5 {t : T} {r : List UInt8} (hp : Qfz n l = .ok t r) :
    Xf Tryz.prog 52 [.ptr (h.length + 1) 0 0, .ptr k 0 0] (hs h k (cA z2) ++ [eE 0, rd l]) fun o h' => o = .ret (.b (Xc t.g)) ∧ h' = hs h k (cA t.g.atom) ++ [eE 0, rd r] := by
  have f1 := fun x => Xw h k x
  have h1 : h.length + 1 < (hs h k (cA z2) ++ [eE 0, rd l]).length := by rw [List.length_append, Xw]; show h.length + 1 < h.length + 2; omega
  have e1 : ∀ z w : AB, hs (hs h k (cA z2) ++ [eE 0, z]) (h.length + 1) w = hs h k (cA z2) ++ [eE 0, w] := fun z w => by
    show List.set _ _ _ = _
    rw [YQ]; rfl
  have cn := Qce h1 l []
  simp only [Qnl, e1] at cn
  rw [Qfz] at hp
  cases hsk : QV l with
  | nil => rw [hsk] at hp; cases hp
  | cons c q =>
    rw [hsk] at hp cn
    simp only at hp
    have hlt := Xe hsk
    split at hp
    case isFalse => cases hp
    rename_i hc
    have e2 : nx l = c.toNat := by rw [nx, hsk]
    rw [e2] at cn
    have z1 : (97 : Int) ≤ (c.toNat : Nat) := by omega
    have z3 : ((c.toNat : Nat) : Int) ≤ 122 := by omega
    have cy := Qad 16
    have hTq : Tabs (hs h k (cA z2) ++ [eE 0, rd (c :: q)]) := by
      have := Tabs.rds (h := hs h k (cA z2) ++ [eE 0, rd l]) (i := h.length + 1) h1 (l := l) (by rw [e1]; exact hT) (c :: q)
      rwa [e1] at this
    have h2 : h.length + 1 < (hs h k (cA z2) ++ [eE 0, rd (c :: q)]).length := by rw [List.length_append, Xw]; show h.length + 1 < h.length + 2; omega
    have cW := Qdt (Z1 n hn) (Zx false n) (by omega) c q (Qg2 hc) (by simp only [Qm5]; omega) (hs h k (cA z2) ++ [eE 0, rd (c :: q)]) (h.length + 1) h2 (by rw [e1]; exact hTq)
    rw [hp, e1] at cW
    have cW' := cW.mono (fun o h' q => by simpa only [RQ, e1] using q : ∀ o h', _ → (o = .ret t.av ∧ h' = hs h k (cA z2) ++ [eE 0, rd r]))
    have cR := Qak t.g
    have f2 := fun x L => Qbd (h := h) hk x L
    have f3 := fun x y L => Qcm (h := h) hk x y L
    have f7 := fun x y L j => YQ (h := h) (i := k) x y L j
    have f5 := fun x L j => Qaa (h := h) (i := k) x L j
    have ga : (AV.agg [.v (.string t.name), .sl 4 (avs t.args) none]) = t.g.atom := rfl
    refine Qe Tryz.func52 rfl Tryz.call52 Tryz.ntmps52 (congrArg Array.toList Tryz.results52) (by simp) ?_
    repeat (first | ((first | (with_reducible (first | refine Qa fun K E hK hE => ?_ | refine Qz cy ?_ | refine Qz cR ?_ | refine FunW.ret (FunW.call cn) ?_ | refine FunW.ret (FunW.call cW') ?_))); simp -implicitDefEqProofs only [Qd, Qb, Qf, OpW, QQ, aop, undef, AS.ev, Qc, QL, Qn, Qt, Qg, Qv, QmZ, Qni, AV.Qmr, Qo, QT, Xv, QB, Qnc, Qnd, Qs, Qu, QE, QI, Qne, ↓reduceIte, Qm5, Qm6, Nat.reduceAdd, Nat.reduceLT, Nat.reduceLeDiff, Nat.reduceEqDiff, Qm4, Qnq, Ql, QG, QH, QW, QM, aBin, Xn, XE, hlen, happ, QmS, QmT, Qnm, Qnn, QmU, QmX, QmV, Qm7, Qnb, Qnk, Qnj, Qnl, Qm3, Qna, Qm1, Qm9, Q9, Qno, Qm0, T.Qmp, T.Qmq, ti9, ti22, ti24, XA, Xx, zi24, ti34, zi34, sp34, f1, f2, f3, f5, f7, z1, z3, T.Qmp, T.Qmq, ga, Xy, Yc]) | (with_reducible refine Qm ?_) | ((with_reducible refine hK _ ?_); clear hK))
    simp -implicitDefEqProofs only [Qg, ↓reduceIte, QmY, QN, Qp, Qw, Qm2]
    have e9 : ∀ (x : AB) (r : List UInt8) (X : AB), hs h k x ++ [eE 0, rd r, X] = (hs h k x ++ [eE 0, rd r]) ++ [X] := fun x r X => (List.append_assoc _ [eE 0, rd r] [X]).symm
    simp only [e9, Qmb hk l]
    refine QeB (by omega) (QhA _ t.g) (Zr _ _) (.keep (.v _)) ⟨rfl, rfl⟩
theorem QgZ {e : Int} (hp : Qfz n l = .err e) :
    Xf Tryz.prog 52 [.ptr (h.length + 1) 0 0, .ptr k 0 0] (hs h k (cA z2) ++ [eE 0, rd l]) fun o h' => o = .panic (Err e) ∧ ∃ r, h' = hs h k (cA z2) ++ [eE 0, rd r] := by
  have _u := hk
  have f1 := fun x => Xw h k x
  have h1 : h.length + 1 < (hs h k (cA z2) ++ [eE 0, rd l]).length := by rw [List.length_append, Xw]; show h.length + 1 < h.length + 2; omega
  have e1 : ∀ z w : AB, hs (hs h k (cA z2) ++ [eE 0, z]) (h.length + 1) w = hs h k (cA z2) ++ [eE 0, w] := fun z w => by
    show List.set _ _ _ = _
    rw [YQ]; rfl
  have cn := Qce h1 l []
  simp only [Qnl, e1] at cn
  have cm := fun H => QbR 16 H
  rw [Qfz] at hp
  cases hsk : QV l with
  | nil =>
    rw [hsk] at hp cn
    cases hp
    have e2 : nx l = 0 := by rw [nx, hsk]
    rw [e2] at cn
    have z1 : ¬ (97 : Int) ≤ ((0 : Nat) : Int) := by decide
    have z2 : ¬ (97 : Int) ≤ 0 := by decide
    refine Qe Tryz.func52 rfl Tryz.call52 Tryz.ntmps52 (congrArg Array.toList Tryz.results52) (by simp) ?_
    repeat (first | ((first | (with_reducible (first | refine Qa fun K E hK hE => ?_ | refine FunW.ret (FunW.call cn) ?_ | refine FunW.pan (FunW.call (cm _)) ?_))); simp -implicitDefEqProofs only [Qd, Qb, Qf, OpW, QQ, aop, undef, AS.ev, Qc, Qn, Qt, Qg, Qv, QmZ, ↓reduceIte, Nat.reduceLT, Nat.reduceEqDiff, aBin, QmS, QmT, QmU, QmX, QmV, Qm7, Qnb, Q9, Qnp, QnE, QmW, beq_true, z2]) | ((with_reducible refine hK _ ?_); clear hK) | (with_reducible refine hE _ _ ?_))
    exact .inr ⟨rfl, _, rfl⟩
  | cons c q =>
    rw [hsk] at hp cn
    simp only at hp
    have hlt := Xe hsk
    have e2 : nx l = c.toNat := by rw [nx, hsk]
    rw [e2] at cn
    have cy := Qad 16
    split at hp
    · rename_i hc
      have z1 : (97 : Int) ≤ (c.toNat : Nat) := by omega
      have z3 : ((c.toNat : Nat) : Int) ≤ 122 := by omega
      have hTq : Tabs (hs h k (cA z2) ++ [eE 0, rd (c :: q)]) := by
        have := Tabs.rds (h := hs h k (cA z2) ++ [eE 0, rd l]) (i := h.length + 1) h1 (l := l) (by rw [e1]; exact hT) (c :: q)
        rwa [e1] at this
      have h2 : h.length + 1 < (hs h k (cA z2) ++ [eE 0, rd (c :: q)]).length := by rw [List.length_append, Xw]; show h.length + 1 < h.length + 2; omega
      have cW := Qdt (Z1 n hn) (Zx false n) (by omega) c q (Qg2 hc) (by simp only [Qm5]; omega) (hs h k (cA z2) ++ [eE 0, rd (c :: q)]) (h.length + 1) h2 (by rw [e1]; exact hTq)
      rw [hp, e1] at cW
      have cW' := cW.mono (fun o h' q => by simpa only [RQ, e1] using q : ∀ o h', _ → (o = .panic (Err e) ∧ ∃ r, h' = hs h k (cA z2) ++ [eE 0, rd r]))
      refine Qe Tryz.func52 rfl Tryz.call52 Tryz.ntmps52 (congrArg Array.toList Tryz.results52) (by simp) ?_
      repeat (first | ((first | (with_reducible (first | refine Qa fun K E hK hE => ?_ | refine Qz cy ?_ | refine FunW.ret (FunW.call cn) ?_ | refine FunW.panE (FunW.call cW') fun r => ?_))); simp -implicitDefEqProofs only [Qd, Qb, Qf, OpW, QQ, aop, undef, AS.ev, Qc, Qn, Qt, Qg, Qv, QmZ, ↓reduceIte, Nat.reduceLT, Nat.reduceEqDiff, aBin, QmS, QmT, QmU, QmX, QmV, Qm7, Qnb, Q9, Qno, Qm0, z1, z3]) | ((with_reducible refine hK _ ?_); clear hK) | (with_reducible refine hE _ _ ?_))
      exact .inr ⟨rfl, _, rfl⟩
    · rename_i hc
      cases hp
      by_cases h97 : (97 : Int) ≤ (c.toNat : Nat)
      · have z3 : ¬ ((c.toNat : Nat) : Int) ≤ 122 := by omega
        refine Qe Tryz.func52 rfl Tryz.call52 Tryz.ntmps52 (congrArg Array.toList Tryz.results52) (by simp) ?_
        repeat (first | ((first | (with_reducible (first | refine Qa fun K E hK hE => ?_ | refine FunW.ret (FunW.call cn) ?_ | refine FunW.pan (FunW.call (cm _)) ?_))); simp -implicitDefEqProofs only [Qd, Qb, Qf, OpW, QQ, aop, undef, AS.ev, Qc, Qn, Qt, Qg, Qv, QmZ, ↓reduceIte, Nat.reduceLT, Nat.reduceEqDiff, aBin, QmS, QmT, QmU, QmX, QmV, Qm7, Qnb, Q9, Qno, Qnp, Qm0, h97, z3]) | ((with_reducible refine hK _ ?_); clear hK) | (with_reducible refine hE _ _ ?_))
        exact .inr ⟨rfl, _, rfl⟩
      · refine Qe Tryz.func52 rfl Tryz.call52 Tryz.ntmps52 (congrArg Array.toList Tryz.results52) (by simp) ?_
        repeat (first | ((first | (with_reducible (first | refine Qa fun K E hK hE => ?_ | refine FunW.ret (FunW.call cn) ?_ | refine FunW.pan (FunW.call (cm _)) ?_))); simp -implicitDefEqProofs only [Qd, Qb, Qf, OpW, QQ, aop, undef, AS.ev, Qc, Qn, Qt, Qg, Qv, QmZ, ↓reduceIte, Nat.reduceLT, Nat.reduceEqDiff, aBin, QmS, QmT, QmU, QmX, QmV, Qm7, Qnb, Q9, Qnp, QmW, beq_true, h97]) | ((with_reducible refine hK _ ?_); clear hK) | (with_reducible refine hE _ _ ?_))
        exact .inr ⟨rfl, _, rfl⟩
end
end Go.Proofs.YtehjodmnajgdgaaGreatDoor.Ab
set_option maxRecDepth 4000
namespace Go.Proofs.YtehjodmnajgdgaaGreatDoor.Ab
open Go.Proofs
def aRes : Res G → AV
  | .ok g _ => .tup [g.atom, .i 0]
  | .err e => .tup [(G.mk 0 eB []).atom, .i e]
theorem Qb5 (H : AH) (m : Nat) (e : Int) : Frz H m (.tup [z2, .i e]) (.tup [(G.mk 0 eB []).atom, .i e]) :=
  .tup rfl (Xd (.agg rfl (Xd (.keep (.v _)) (XS (.nil 4)))) (XS (.keep (.v _))))
theorem QiK (l : List UInt8) (hl : ¬ 16384 < l.length) : QaR false l = match Qfz (l.length + 1) l with
  | .ok t r => if QV r ≠ [] then .err 16 else if Xc t.g = true then .ok t.g [] else .err 6
  | .err e => .err e := by
  rw [QaR, if_neg hl, Qfz]
  cases QV l with
  | nil => rfl
  | cons c r =>
    simp only
    split
    · rfl
    · rfl
theorem Qdl (l : List UInt8) (hm : l.length ≤ 9223372036854775807) (h : AH) (hT : Tabs h) : Xf Tryz.prog 20 [.v (.string (mkB l))] h fun o h' => o = .ret (aRes (QaR false l)) ∧ h' = h := by
  by_cases hl : 16384 < l.length
  · have c1 := fun fv => QgB l fv hl hm
    have z1 : ((6 : Int) != 0) = true := by decide
    rw [QaR, if_pos hl]
    refine Qe Tryz.func20 rfl Tryz.call20 Tryz.ntmps20 (congrArg Array.toList Tryz.results20) (by simp) ?_
    repeat (first | ((first | (with_reducible (first | refine Qa fun K E hK hE => ?_ | refine Qz (c1 _) ?_))); simp -implicitDefEqProofs only [Qd, Qb, Qf, OpW, QQ, aop, undef, AS.ev, Qc, QL, Qn, Qg, Qv, QmZ, AV.Qmr, Qo, QB, Qnc, Qnd, Qu, QE, Qne, ↓reduceIte, Qm5, Qm6, Nat.reduceAdd, Nat.reduceLT, Nat.reduceEqDiff, Qm4, Qnq, QW, QM, aBin, Xn, XE, Q0, Ym, hlen, happ, QmS, Qnm, QmU, Qm7, Qnb, Qnk, Qnj, Q2, ti34, zi34, sp34, z1]) | (with_reducible (first | refine Qi fun K hK => ?_ | refine Qm ?_ | refine QA ?_)) | ((with_reducible refine hK _ ?_); clear hK) | (refine Qk rfl ?_; simp only [↓reduceIte]))
    simp -implicitDefEqProofs only [Qg, Qo, QB, ↓reduceIte, Qm5, Qm6, Nat.reduceAdd, Nat.reduceEqDiff, Qm4, Qnq, QG, QH, Q0, QmS, QmU, QmX, QmY, ti34, List.mapM_cons, List.mapM_nil, Option.pure_def, Option.bind_eq_bind, QG, QH, Q0, QN, Qp, Qw, Qm2]
    exact Qh (htake _ _) (Qb5 _ _ _) ⟨rfl, rfl⟩
  · have hk : h.length + 1 < (h ++ [cA z2, cA z2]).length := by rw [List.length_append]; show h.length + 1 < h.length + 2; omega
    have e0 : hs (h ++ [cA z2, cA z2]) (h.length + 1) (cA z2) = h ++ [cA z2, cA z2] := QeP (by rw [hget]; rfl)
    have e2 : ∀ x, hs (h ++ [cA z2, cA z2]) (h.length + 1) (cA x) = h ++ [cA z2, cA x] := fun x => by
      show List.set _ _ _ = _
      rw [hset]; rfl
    have hT2 : Tabs (hs (h ++ [cA z2, cA z2]) (h.length + 1) (cA z2) ++ [eE 0, rd l]) := by rw [e0]; exact (hT.app _).app _
    rw [QiK l hl]
    cases hp : Qfz (l.length + 1) l with
    | err e =>
      have he : 0 < e := Qk4 _ _ e hp
      have z1 : (e != 0) = true := by simp; omega
      have c1 := QgZ hk l (l.length + 1) (by omega) (by omega) hT2 hp
      have c2 := QhG hk (cA z2) (cA z2) (cA_z _) l (.fn (.func 52) [] [.ptr (h.length + 1) 0 0]) (by omega) e (cA_z _) (FunW.fn (show Xf _ _ ([] ++ [_] ++ [_]) _ _ from c1))
      rw [e0] at c2
      refine Qe Tryz.func20 rfl Tryz.call20 Tryz.ntmps20 (congrArg Array.toList Tryz.results20) (by simp) ?_
      repeat (first | ((first | (with_reducible (first | refine Qa fun K E hK hE => ?_ | refine FunW.ret (FunW.call c2) ?_))); simp -implicitDefEqProofs only [Qd, Qb, Qf, OpW, QQ, aop, undef, AS.ev, Qc, QL, Qn, Qg, Qv, QmZ, AV.Qmr, Qo, QB, Qnc, Qnd, Qu, QE, Qne, ↓reduceIte, Qm5, Qm6, Nat.reduceAdd, Nat.reduceLT, Nat.reduceEqDiff, Qm4, Qnq, QW, QM, aBin, Xn, XE, Q0, Ym, hlen, happ, QmS, Qnm, QmU, Qm7, Qnb, Qnk, Qnj, Q2, ti34, zi34, sp34, z1]) | (with_reducible (first | refine Qi fun K hK => ?_ | refine Qm ?_ | refine QA ?_)) | ((with_reducible refine hK _ ?_); clear hK) | (refine Qk rfl ?_; simp only [↓reduceIte]))
      simp -implicitDefEqProofs only [Qg, Qo, QB, ↓reduceIte, Qm5, Qm6, Nat.reduceAdd, Nat.reduceEqDiff, Qm4, Qnq, QG, QH, Q0, QmS, QmU, QmX, QmY, ti34, List.mapM_cons, List.mapM_nil, Option.pure_def, Option.bind_eq_bind, QG, QH, Q0, QN, Qp, Qw, Qm2]
      exact Qh (htake _ _) (Qb5 _ _ _) ⟨rfl, rfl⟩
    | ok t r =>
      have c1 := Qh5 hk l (l.length + 1) (by omega) (by omega) hT2 hp
      have c2 := QiH hk (cA z2) (cA t.g.atom) (QhA _ t.g) l (.fn (.func 52) [] [.ptr (h.length + 1) 0 0]) (by omega) (Xc t.g) r (FunW.fn (show Xf _ _ ([] ++ [_] ++ [_]) _ _ from c1))
      rw [e0, e2] at c2
      simp only
      have hR : aRes (if QV r ≠ [] then Res.err 16 else if Xc t.g = true then .ok t.g [] else .err 6) = if Qbt (Xc t.g) r ≠ 0 then .tup [(G.mk 0 eB []).atom, .i (Qbt (Xc t.g) r)] else .tup [t.g.atom, .i 0] := by
        rw [Qbt]
        by_cases h1 : QV r ≠ []
        · rw [if_pos h1, if_pos h1]; rfl
        · rw [if_neg h1, if_neg h1]
          cases Xc t.g <;> rfl
      rw [hR]
      by_cases h0 : Qbt (Xc t.g) r ≠ 0
      · have z1 : (Qbt (Xc t.g) r != 0) = true := by simpa using h0
        rw [if_pos h0]
        refine Qe Tryz.func20 rfl Tryz.call20 Tryz.ntmps20 (congrArg Array.toList Tryz.results20) (by simp) ?_
        repeat (first | ((first | (with_reducible (first | refine Qa fun K E hK hE => ?_ | refine FunW.ret (FunW.call c2) ?_))); simp -implicitDefEqProofs only [Qd, Qb, Qf, OpW, QQ, aop, undef, AS.ev, Qc, QL, Qn, Qg, Qv, QmZ, AV.Qmr, Qo, QB, Qnc, Qnd, Qu, QE, Qne, ↓reduceIte, Qm5, Qm6, Nat.reduceAdd, Nat.reduceLT, Nat.reduceEqDiff, Qm4, Qnq, QW, QM, aBin, Xn, XE, Q0, Ym, hlen, happ, QmS, Qnm, QmU, Qm7, Qnb, Qnk, Qnj, Q2, ti34, zi34, sp34, z1]) | (with_reducible (first | refine Qi fun K hK => ?_ | refine Qm ?_ | refine QA ?_)) | ((with_reducible refine hK _ ?_); clear hK) | (refine Qk rfl ?_; simp only [↓reduceIte]))
        simp -implicitDefEqProofs only [Qg, Qo, QB, ↓reduceIte, Qm5, Qm6, Nat.reduceAdd, Nat.reduceEqDiff, Qm4, Qnq, QG, QH, Q0, QmS, QmU, QmX, QmY, ti34, List.mapM_cons, List.mapM_nil, Option.pure_def, Option.bind_eq_bind, QG, QH, Q0, QN, Qp, Qw, Qm2]
        exact Qh (htake _ _) (Qb5 _ _ _) ⟨rfl, rfl⟩
      · have z1 : (Qbt (Xc t.g) r != 0) = false := by simpa using h0
        rw [if_neg h0]
        refine Qe Tryz.func20 rfl Tryz.call20 Tryz.ntmps20 (congrArg Array.toList Tryz.results20) (by simp) ?_
        repeat (first | ((first | (with_reducible (first | refine Qa fun K E hK hE => ?_ | refine FunW.ret (FunW.call c2) ?_))); simp -implicitDefEqProofs only [Qd, Qb, Qf, OpW, QQ, aop, undef, AS.ev, Qc, QL, Qn, Qg, Qv, QmZ, AV.Qmr, Qo, QB, Qnc, Qnd, Qu, QE, QI, Qne, ↓reduceIte, Qm5, Qm6, Nat.reduceAdd, Nat.reduceLT, Nat.reduceEqDiff, Qm4, Qnq, QG, QH, QW, QM, aBin, Q0, hget, Ym, hlen, happ, QmS, QmT, Qnm, QmU, Qm7, Qnb, Qnk, Qnj, Q2, ti34, zi34, z1, Xy, Yc]) | (with_reducible (first | refine Qi fun K hK => ?_ | refine Qm ?_ | refine QD ?_ | refine Qj ?_)) | ((with_reducible refine hK _ ?_); clear hK) | (refine Qk rfl ?_; simp only [↓reduceIte, QmW]))
        simp -implicitDefEqProofs only [Qg, ↓reduceIte, Qm5, Qm6, Nat.reduceAdd, Nat.reduceEqDiff, Qm4, Qnq, QG, QH, Q0, QmS, QmU, QmX, QmY, ti34, List.mapM_cons, List.mapM_nil, Option.pure_def, Option.bind_eq_bind, QG, QH, Q0, Xy, Yc, QN, Qp, Qw, Qm2]
        exact Qh (htake _ _) (.tup rfl (Xd (.keep (.agg _ (QbX _ t.g))) (XS (.keep (.v _))))) ⟨rfl, rfl⟩
end Go.Proofs.YtehjodmnajgdgaaGreatDoor.Ab
set_option maxRecDepth 4000
namespace Go.Proofs.YtehjodmnajgdgaaGreatDoor.Ab
open Go.Proofs
theorem Qg8 (i : Int) : Pure Tryz.prog 30 [.i i] (T.mk 0 i eB []).av := by
  intro h
  refine Qe Tryz.func30 rfl Tryz.call30 Tryz.ntmps30 (congrArg Array.toList Tryz.results30) (by simp) ?_
  repeat (first | (((with_reducible refine Qa fun K E hK hE => ?_)); simp -implicitDefEqProofs only [Qd, Qb, Qf, OpW, aop, undef, AS.ev, Qc, QL, Qn, Qg, Qv, QmZ, AV.Qmr, Qo, QT, QB, Qnc, Qnd, Qs, Qu, QE, Qne, ↓reduceIte, Qm5, Qm6, Nat.reduceAdd, Nat.reduceLT, Nat.reduceLeDiff, Nat.reduceEqDiff, Qm4, Qnq, QW, QM, Xn, XE, Q0, Ym, QmS, QmT, Qnm, QmU, Qm7, Qnb, Qnk, Qnj, Qm3, Qna, Qm1, Qm9, ti24, zi24, sp24]) | (with_reducible refine Qm ?_) | ((with_reducible refine hK _ ?_); clear hK))
  simp -implicitDefEqProofs only [Qg, Qo, QB, ↓reduceIte, Qm5, Qm6, Nat.reduceAdd, Nat.reduceEqDiff, Qm4, Qnq, Q0, QmS, QmY, ti24, QG, QH, Q0, QN, Qp, Qw, Qm2]
  refine Qh (r' := (T.mk 0 i eB []).av) (htake _ _) ?_ ⟨rfl, rfl⟩
  exact .agg rfl (Xd (.keep (.v _)) (Xd (.keep (.v _)) (Xd (.keep (.v _)) (XS (.nil 4)))))
theorem Qlz (i : Int) : Pure Tryz.prog 31 [.i i] (T.mk 1 i eB []).av := by
  intro h
  refine Qe Tryz.func31 rfl Tryz.call31 Tryz.ntmps31 (congrArg Array.toList Tryz.results31) (by simp) ?_
  repeat (first | (((with_reducible refine Qa fun K E hK hE => ?_)); simp -implicitDefEqProofs only [Qd, Qb, Qf, OpW, aop, undef, AS.ev, Qc, QL, Qn, Qg, Qv, QmZ, AV.Qmr, Qo, QT, QB, Qnc, Qnd, Qs, Qu, QE, Qne, ↓reduceIte, Qm5, Qm6, Nat.reduceAdd, Nat.reduceLT, Nat.reduceLeDiff, Nat.reduceEqDiff, Qm4, Qnq, QW, QM, Xn, XE, Q0, Ym, QmS, QmT, Qnm, QmU, Qm7, Qnb, Qnk, Qnj, Qm3, Qna, Qm1, Qm9, ti24, zi24, sp24]) | (with_reducible refine Qm ?_) | ((with_reducible refine hK _ ?_); clear hK))
  simp -implicitDefEqProofs only [Qg, Qo, QB, ↓reduceIte, Qm5, Qm6, Nat.reduceAdd, Nat.reduceEqDiff, Qm4, Qnq, Q0, QmS, QmY, ti24, QG, QH, Q0, QN, Qp, Qw, Qm2]
  refine Qh (r' := (T.mk 1 i eB []).av) (htake _ _) ?_ ⟨rfl, rfl⟩
  exact .agg rfl (Xd (.keep (.v _)) (Xd (.keep (.v _)) (Xd (.keep (.v _)) (XS (.nil 4)))))
theorem Qkf (s : ByteArray) (t u : T) : Pure Tryz.prog 28 [.v (.string s), .sl 4 [t.av, u.av] none] (T.mk 2 0 s [t, u]).av := by
  intro h
  have h1 : 1 + 1 ≤ maxLen := by simp only [maxLen]; omega
  have h2 : (1 + 1) * 56 ≤ 140737488355328 := by omega
  refine Qe Tryz.func28 rfl Tryz.call28 Tryz.ntmps28 (congrArg Array.toList Tryz.results28) (by simp) ?_
  repeat (first | ((first | (with_reducible (first | refine Qa fun K E hK hE => ?_ | refine QlO ?_))); simp -implicitDefEqProofs only [Qd, Qb, Qf, OpW, aop, undef, AS.ev, Qc, QL, Qn, Qg, Qv, QmZ, Qni, AV.Qmr, Qo, QT, Xv, QB, Qnc, Qnd, Qs, Qu, QE, QI, Qne, ↓reduceIte, Qm5, Qm6, Nat.reduceAdd, Nat.reduceLT, Nat.reduceLeDiff, Nat.reduceEqDiff, Nat.reduceMul, Qm4, Qnr, Qnq, QW, QM, Xn, XE, Q6, Zs, ZA, Q0, hget, Ym, hset, hlen, happ, QmS, QmT, Qnm, Qnn, QmU, Qm7, Qnb, Qnk, Qnj, Qnl, Qm3, Qna, Qm1, Qm9, Qm0, rng0, Xk, Nat.reducePow, Nat.zero_le, Nat.zero_mul, ei22, ai22, ti24, zi24, sp24, h1, h2]) | (with_reducible refine Qm ?_) | ((with_reducible refine hK _ ?_); clear hK))
  simp -implicitDefEqProofs only [Qg, Qo, QB, ↓reduceIte, Qm5, Qm6, Nat.reduceAdd, Nat.reduceEqDiff, Qm4, Qnq, Q0, QmS, QmY, ti24, QG, QH, Q0, QN, Qp, Qw, Qm2]
  exact Qh (r' := .agg [.i 2, .i 0, .v (.string s), .sl 4 (avs [t, u]) none]) (htake _ _) (.agg rfl (Xd (.keep (.v _)) (Xd (.keep (.v _)) (Xd (.keep (.v _)) (XS (.tok (xs := avs [t, u]) (QaN _ [t, u]))))))) ⟨by simp only [T.av], rfl⟩
theorem Qgd (t : T) (hn : t.nds ≤ 1000000) : Pure Tryz.prog 22 [t.av, t.av] (.b true) := by
  have := QfO t t hn
  rw [QfZ] at this
  exact this
mutual
theorem T.Qmy : ∀ t : T, t.Qms = true → t.nds = t.size
  | .mk k i n l, h => by
    simp only [T.Qms] at h
    simp only [T.nds, T.size]
    split at h
    · rename_i k0
      simp only [Bool.and_eq_true, List.isEmpty_iff] at h
      rw [if_neg (by omega), h.2]; rfl
    · split at h
      · rename_i k0 k1
        simp only [Bool.and_eq_true, List.isEmpty_iff] at h
        rw [if_neg (by omega), h.2]; rfl
      · split at h
        · rename_i k2
          split at h
          · cases h
          · split at h
            · cases h
            · rw [if_pos k2, QdO l h]
        · cases h
theorem QdO : ∀ l : List T, ZC l = true → ndsL l = sizes l
  | [], _ => rfl
  | t :: l, h => by
    simp only [ZC, Bool.and_eq_true] at h
    simp only [ndsL, sizes]
    rw [T.Qmy t h.1, QdO l h.2]
end
theorem QfU {t : T} (h : (t.run 200 20).1 = true) : t.Qms = true ∧ t.nds ≤ 200 ∧ (t.run 200 20).2 = 200 - t.size := by
  obtain ⟨h1, h2⟩ := T.Qmv t 200 20
  rw [h] at h1
  have h3 := h1.symm
  simp only [Bool.and_eq_true, decide_eq_true_eq] at h3
  refine ⟨h3.1, ?_, h2 h⟩
  rw [T.Qmy t h3.1]; omega
def txtT (t : T) : ByteArray := if t.Qmx = true then t.txt else { data := #[] }
theorem QiL {h : AH} {i j p : Nat} (hi : i < h.length) (hj : j < h.length) (hij : i ≠ j) (hpi : i ≠ p) (hpj : j ≠ p) (t : T) (gp : h[p]? = some (.cells 24 4 [t.av])) (hx : t.lex)
    (hG : X9 (HB h i j true (.empty))) (u : Bool) (tx : ByteArray) (hs : tx.size + t.txt.size ≤ 140737488355328) :
    Wri 34 [.ptr i 0 0, .ptr p 0 0] h i j u tx t.txt := by
  have k1 : ∀ u tx, (HB h i j u tx)[p]? = some (.cells 24 4 [t.av]) := fun u tx => by
    rw [HB, YJ _ _ hpi hpj, gp]
  have c1 := T.Qmw t hx i j hij h hi hj hG u tx hs
  rw [Wri] at c1
  refine Qe Tryz.func34 rfl Tryz.call34 Tryz.ntmps34 (congrArg Array.toList Tryz.results34) (by simp) ?_
  repeat (first | ((first | (with_reducible (first | refine Qr fun K E hK hE => ?_ | refine FunW.ret (FunW.call c1) ?_))); simp -implicitDefEqProofs only [Qd, Qb, Qf, OpW, QQ, aop, undef, AS.ev, Qc, Qg, Qv, QmZ, Qni, ↓reduceIte, Qm5, Qm6, Nat.reduceAdd, Nat.reduceLT, Nat.reduceEqDiff, Qm4, Qnq, QG, QH, QmS, QmU, Qm7, Qnb, T.Qmp, T.Qmq, ti24, k1, T.Qmp, T.Qmq]) | ((with_reducible refine hK _ ?_); clear hK))
  simp -implicitDefEqProofs only [QmU, QmY, List.mapM_nil, Option.pure_def, QmU, QN, Qp, Qm2]
  exact .inr ⟨rfl, rfl⟩
theorem QfD (t : T) (h : AH) (hG : X9 h) : Xf Tryz.prog 11 [t.av] h fun o h' => o = .ret (.v (.string (txtT t))) ∧ h' = h := by
  have cr := Qd6 t
  cases hr : t.Qmx with
  | false =>
    rw [hr] at cr
    have c1 := Qhb (.fn (.func 34) [] [.ptr h.length 0 0])
    refine Qe Tryz.func11 rfl Tryz.call11 Tryz.ntmps11 (congrArg Array.toList Tryz.results11) (by simp) ?_
    repeat (first | ((first | (with_reducible (first | refine Qa fun K E hK hE => ?_ | refine Qz cr ?_ | refine Qz c1 ?_))); simp -implicitDefEqProofs only [Qd, Qb, Qf, OpW, QQ, aop, undef, AS.ev, Qc, QO, Qg, Qv, QmZ, AV.Qmr, Qnc, Qnd, Qs, Qu, QI, Qne, ↓reduceIte, Qm5, Qm6, Nat.reduceAdd, Nat.reduceLT, Nat.reduceEqDiff, Qm4, Qnq, QG, QH, Q0, QmS, QmU, Qm7, Qnb, T.Qmp, T.Qmq, ti24, T.Qmp, T.Qmq]) | (with_reducible refine Qm ?_) | ((with_reducible refine hK _ ?_); clear hK))
    simp only [QN, Qp, Qw, upd, ↓reduceIte, QmY, Qm2]; first | refine Qh (htake _ _) (.keep (.v _)) ⟨by rw [txtT, if_neg (by rw [hr]; decide)], rfl⟩ | refine Qh List.take_length (.keep (.v _)) ⟨by rw [txtT, if_neg (by rw [hr]; decide)], rfl⟩
  | true =>
    rw [hr] at cr
    obtain ⟨r1, r2, r3⟩ := QfU (t := t) hr
    obtain ⟨hx, hs0, hs1, hs2⟩ := T.QmL t 200 20 hr
    have hsz := T.Qmy t r1
    have hk := QiL (h := h ++ [AB.cells 24 4 [t.av]] ++ [AB.dead, AB.dead]) (i := (h ++ [AB.cells 24 4 [t.av]]).length) (j := (h ++ [AB.cells 24 4 [t.av]]).length + 1) (p := h.length)
      (by simp) (by simp) (by omega) (by simp) (by simp; omega) t (by simp) hx (Qfx hG _) false .empty (by rw [show (ByteArray.empty).size = 0 from rfl]; omega)
    rw [Wri, ByteArray.empty_append] at hk
    have c1 := Qff (.fn (.func 34) [] [.ptr h.length 0 0]) (.tup []) t.txt (h ++ [AB.cells 24 4 [t.av]]) hs1 (by omega) (FunW.fn hk)
    refine Qe Tryz.func11 rfl Tryz.call11 Tryz.ntmps11 (congrArg Array.toList Tryz.results11) (by simp) ?_
    repeat (first | ((first | (with_reducible (first | refine Qa fun K E hK hE => ?_ | refine Qz cr ?_ | refine FunW.ret (FunW.call c1) ?_))); simp -implicitDefEqProofs only [Qd, Qb, Qf, OpW, QQ, aop, undef, AS.ev, Qc, QO, Qg, Qv, QmZ, AV.Qmr, Qnc, Qnd, Qs, Qu, QI, Qne, ↓reduceIte, Qm5, Qm6, Nat.reduceAdd, Nat.reduceLT, Nat.reduceEqDiff, Qm4, Qnq, QG, QH, Q0, QmS, QmU, Qm7, Qnb, T.Qmp, T.Qmq, ti24, T.Qmp, T.Qmq]) | (with_reducible refine Qm ?_) | ((with_reducible refine hK _ ?_); clear hK))
    simp only [QN, Qp, Qw, upd, ↓reduceIte, QmY, Qm2]; first | refine Qh (htake _ _) (.keep (.v _)) ⟨by rw [txtT, if_pos hr], rfl⟩ | refine Qh List.take_length (.keep (.v _)) ⟨by rw [txtT, if_pos hr], rfl⟩
end Go.Proofs.YtehjodmnajgdgaaGreatDoor.Ab
set_option maxRecDepth 4000
namespace Go.Proofs.YtehjodmnajgdgaaGreatDoor.Ab
open Go.Proofs
theorem QgX {sb : ByteArray} (hb : sb.size ≤ 1000000) : ∀ n, n ≤ 900000 → Sdr sb 50 (Zz n) n
  | 0, _ => fun r _ hl => absurd hl (Nat.not_lt_zero _)
  | n + 1, hn => by
    have H := QgX hb n (by omega)
    have h1 := Qjl hb H (QbK n) (by omega)
    have h2 := Qkk hb h1 (Qg7 (QbK n)) (by omega)
    exact QiE hb h2 (Qfl (Qg7 (QbK n)) 2) (by omega)
def rEnd (r : List UInt8) (e : Int) : Int := if e ≠ 0 then e else if QV r ≠ [] then 16 else 0
theorem QfR {sb : ByteArray} (hb : sb.size ≤ 1000000) {r : List UInt8} (hr : Suf sb r) (e : Int) {h : AH} {j : Nat} (hj : j < h.length) (L : AH) :
    Xf Tryz.prog 51 [.ptr j 0 0] (hs h j (rr sb r e) ++ L) fun o h' => o = .ret (.tup []) ∧ h' = hs h j (rr sb (QV r) (rEnd r e)) ++ L := by
  have cn := Qav hb hr e hj L
  have hsS := hr.skip
  have hsl := fun b => Yf Tryz.prog 9 3 (by kernel_rfl) b
  have f2 := Yh hj sb
  unfold rEnd
  cases hsk : QV r with
  | nil =>
    rw [hsk] at cn
    have z1 : ¬ (((ps sb [] : Nat)) : Int) < sb.size := by rw [Qep]; omega
    have e1 : (if e ≠ 0 then e else if ([] : List UInt8) ≠ [] then 16 else 0) = e := by
      by_cases he : e ≠ 0
      · rw [if_pos he]
      · rw [if_neg he, if_neg (by simp)]
        apply Classical.byContradiction; intro h; exact he (fun h2 => h h2.symm)
    rw [e1]
    refine Qe Tryz.func51 rfl Tryz.call51 Tryz.ntmps51 (congrArg Array.toList Tryz.results51) (by simp) ?_
    repeat (first | ((first | (with_reducible (first | refine Qa fun K E hK hE => ?_ | refine FunW.ret (FunW.call cn) ?_)) | (refine QP (id := 1) [(0, 0), (1, 0), (2, 0), (3, 0), (4, 0), (5, 0), (6, 0), (7, 0), (8, 0), (9, 0)] mixed (by kernel_rfl) fun K hK => ?_)); simp -implicitDefEqProofs only [Q1, QX, Q8, Qd, Qb, Qf, OpW, QQ, aop, undef, AS.ev, Qc, Qg, Qv, QmZ, Qo, ↓reduceIte, Nat.reduceLT, Nat.reduceEqDiff, Qm4, Qnh, Ql, QG, QH, aBin, aLen, QmS, QmT, QmU, QmV, Qm7, Qnb, Q3, goInt, Qnp, ti3, ti9, Xm, Xl, QC, f2, hsl, z1]) | (with_reducible refine QD ?_) | ((with_reducible refine hK _ ?_); clear hK) | (refine Qk rfl ?_; simp only [↓reduceIte, QmW]))
    simp -implicitDefEqProofs only [QmU, QmY, List.mapM_nil, Option.pure_def, QmU, QN, Qp, Qm2]
    exact .inr ⟨rfl, rfl⟩
  | cons c r2 =>
    rw [hsk] at cn hsS
    have z1 : (((ps sb (c :: r2) : Nat)) : Int) < sb.size := by have := Qcc hsS; omega
    by_cases he : e ≠ 0
    · rw [if_pos he]
      have cf := (Qdq (s := sb) (c :: r2) he 16 j).app hj L
      refine Qe Tryz.func51 rfl Tryz.call51 Tryz.ntmps51 (congrArg Array.toList Tryz.results51) (by simp) ?_
      repeat (first | ((first | (with_reducible (first | refine Qa fun K E hK hE => ?_ | refine Qr fun K E hK hE => ?_ | refine FunW.ret (FunW.call cn) ?_ | refine FunW.ret (FunW.call cf) ?_)) | (refine QP (id := 1) [(0, 0), (1, 0), (2, 0), (3, 0), (4, 0), (5, 0), (6, 0), (7, 0), (8, 0), (9, 0)] mixed (by kernel_rfl) fun K hK => ?_)); simp -implicitDefEqProofs only [Q1, QX, Q8, Qd, Qb, Qf, OpW, QQ, aop, undef, AS.ev, Qc, Qn, Qg, Qv, QmZ, Qo, ↓reduceIte, Nat.reduceLT, Nat.reduceEqDiff, Qm4, Qnh, Ql, QG, QH, aBin, aLen, QmS, QmT, QmU, QmV, Qm7, Qnb, Q3, goInt, Qno, ti3, ti9, Xm, Xl, QC, f2, hsl, z1]) | ((with_reducible refine hK _ ?_); clear hK) | (refine Qk rfl ?_; simp only [↓reduceIte]))
      simp -implicitDefEqProofs only [QmU, QmY, List.mapM_nil, Option.pure_def, QmU, QN, Qp, Qm2]
      exact .inr ⟨rfl, rfl⟩
    · obtain rfl : e = 0 := by
        apply Classical.byContradiction; intro h; exact he h
      rw [if_neg he, if_pos (by simp)]
      have cf := (Y3 (s := sb) (c :: r2) 16 j).app hj L
      refine Qe Tryz.func51 rfl Tryz.call51 Tryz.ntmps51 (congrArg Array.toList Tryz.results51) (by simp) ?_
      repeat (first | ((first | (with_reducible (first | refine Qa fun K E hK hE => ?_ | refine Qr fun K E hK hE => ?_ | refine FunW.ret (FunW.call cn) ?_ | refine FunW.ret (FunW.call cf) ?_)) | (refine QP (id := 1) [(0, 0), (1, 0), (2, 0), (3, 0), (4, 0), (5, 0), (6, 0), (7, 0), (8, 0), (9, 0)] mixed (by kernel_rfl) fun K hK => ?_)); simp -implicitDefEqProofs only [Q1, QX, Q8, Qd, Qb, Qf, OpW, QQ, aop, undef, AS.ev, Qc, Qn, Qg, Qv, QmZ, Qo, ↓reduceIte, Nat.reduceLT, Nat.reduceEqDiff, Qm4, Qnh, Ql, QG, QH, aBin, aLen, QmS, QmT, QmU, QmV, Qm7, Qnb, Q3, goInt, Qno, ti3, ti9, Xm, Xl, QC, f2, hsl, z1]) | ((with_reducible refine hK _ ?_); clear hK) | (refine Qk rfl ?_; simp only [↓reduceIte]))
      simp -implicitDefEqProofs only [QmU, QmY, List.mapM_nil, Option.pure_def, QmU, QN, Qp, Qm2]
      exact .inr ⟨rfl, rfl⟩
def rP (l : List UInt8) : T × Int := if 16384 < l.length then (zT, 6) else
  let x := Zz (l.length + 1) l
  let e := rEnd x.2.1 x.2.2
  if e ≠ 0 then (zT, e) else if (x.1.run 200 20).1 = true then (x.1, 0) else (zT, 6)
theorem Qmi (l : List UInt8) : .tup [(rP l).1.av, .i (rP l).2] = tRes (QaO true l) := by
  unfold rP QaO
  by_cases hl : 16384 < l.length
  · rw [if_pos hl, if_pos hl]; rfl
  · rw [if_neg hl, if_neg hl]
    have h := Qa8 (l.length + 1) l
    cases hp : QaQ true (l.length + 1) l with
    | err e =>
      rw [hp] at h
      obtain ⟨h1, h2⟩ := h.err
      simp only [rEnd, h1]
      rw [if_pos h2, if_pos h2]; rfl
    | ok t r =>
      rw [hp] at h
      rw [h.ok]
      simp only [rEnd, ne_eq, not_true_eq_false, if_false]
      by_cases hs : QV r = []
      · simp only [hs, not_true_eq_false, if_false]
        split
        · rfl
        · rfl
      · simp only [hs, not_false_eq_true, if_true]
        rfl
theorem Qfq (s : ByteArray) : Suf s s.data.toList := List.suffix_refl _
theorem QiW (s : ByteArray) : ps s s.data.toList = 0 := by simp [ps]
end Go.Proofs.YtehjodmnajgdgaaGreatDoor.Ab
namespace Go.Proofs.YtehjodmnajgdgaaGreatDoor.Ab
theorem Qac {P : Program} {N : Nat} {x : Code} {Q : AExit → AS → Prop} {tm : Nat → AV} {h : AH} (id d k off : Nat) {ty s : Nat} {xs : List AV} (hb : h[id]? = some (.cells ty s xs)) (hd : tm d = .ptr id k off)
    (H : Yy P N x Q ⟨upd tm d (.pin s xs k off), h.set id .dead⟩) : Yy P N x Q ⟨tm, h⟩ := by
  intro F n base c a hF hst hr R hR
  have hh : c.h = h := hr.h
  subst hh
  have hev := Ev.kill hb
  have hst2 := hst.kill hb
  refine H F n base (c.kill id) a hF hst2 ⟨rfl, hr.size, hr.above, hr.defers.ev hev, RoundOk.ev hev hr.round, fun t => ?_⟩ R fun e' s' c' a' ex hq h1 h2 h3 h4 => hR e' s' c' a' ex hq (Ev.trans hst hev h1) h2 h3 h4
  show Rel (c.kill id) (if t = d then .pin s xs k off else tm t) _
  split
  · rename_i ht
    subst ht
    have h0 := hr.tm t
    rw [show (AS.mk tm c.h).tm t = tm t from rfl, hd] at h0
    generalize a.tmps.getD t undef = u at h0
    cases h0 with
    | ptr _ _ _ x hid ho h1 =>
      obtain ⟨B, hρ, rfl⟩ := h1 _ _ _ hb
      obtain ⟨h4, f, h5⟩ := QcS hst hb hρ
      have := Rel.pin (c := c.kill id) s xs k off B 0 f h4 (fun j a hj => (h5 j a hj).1) (fun j a hj => (h5 j a hj).2)
      rwa [Nat.zero_add] at this
  · exact (hr.tm t).ev hst hev
end Go.Proofs.YtehjodmnajgdgaaGreatDoor.Ab
set_option maxRecDepth 4000
namespace Go.Proofs.YtehjodmnajgdgaaGreatDoor.Ab
open Go.Proofs
abbrev rrA (sb : ByteArray) (p e : Int) : AB := .cells 80 3 [.agg [.v (.string sb), .i p, .i e]]
theorem QcG (sb : ByteArray) (h : AH) (x : AB) (r r2 : List UInt8) (e e2 : Int) : hs (h ++ [x, rr sb r e]) (h.length + 1) (rr sb r2 e2) = h ++ [x, rr sb r2 e2] := by
  show List.set _ _ _ = _
  rw [hset]; rfl
theorem QlX (l : List UInt8) (hl : ¬ 16384 < l.length) {t : T} {q : List UInt8} {e : Int} (hx : Zz (l.length + 1) l = (t, q, e)) : rP l = if rEnd q e ≠ 0 then (zT, rEnd q e) else if (t.run 200 20).1 = true then (t, 0) else (zT, 6) := by
  unfold rP
  rw [if_neg hl, hx]
theorem Qmh (l : List UInt8) (hb : l.length ≤ 900000) {t : T} {q : List UInt8} {e : Int} (hx : Zz (l.length + 1) l = (t, q, e)) (h0 : rEnd q e = 0) : t.ok ∧ t.nds ≤ 1000000 := by
  have h := Qa8 (l.length + 1) l
  cases hp : QaQ true (l.length + 1) l with
  | err e2 =>
    rw [hp, hx] at h
    obtain ⟨h1, h2⟩ := h.err
    simp only at h1
    rw [rEnd, if_pos (by rw [h1]; exact h2)] at h0
    exact absurd (h1.symm.trans h0) h2
  | ok t2 r =>
    rw [hp, hx] at h
    have := h.ok
    cases this
    obtain ⟨o, n⟩ := Qhi true _ _ _ _ hp
    exact ⟨o, by omega⟩
theorem Qfo (sb : ByteArray) (hm : sb.size ≤ 9223372036854775807) : Pure Tryz.prog 19 [.v (.string sb)] (.tup [(rP sb.data.toList).1.av, .i (rP sb.data.toList).2]) := by
  intro h
  have hsl := fun b => Yf Tryz.prog 9 3 (by kernel_rfl) b
  have hSz : sb.data.toList.length = sb.size := by simp
  by_cases hl : 16384 < sb.data.toList.length
  · have e5 : rP sb.data.toList = (zT, 6) := by unfold rP; rw [if_pos hl]
    have z1 : ((sb.size : Nat) : Int) > 16384 := by omega
    rw [e5]
    refine Qe Tryz.func19 rfl Tryz.call19 Tryz.ntmps19 (congrArg Array.toList Tryz.results19) (by simp) ?_
    repeat (first | (((with_reducible refine Qa fun K E hK hE => ?_)); simp -implicitDefEqProofs only [Qd, Qb, Qf, OpW, aop, undef, AS.ev, Qc, QL, Qn, Qg, Qv, QmZ, AV.Qmr, Qo, QB, Qnc, Qnd, Qs, Qu, QE, Qne, ↓reduceIte, Qm5, Qm6, Nat.reduceAdd, Nat.reduceLT, Nat.reduceEqDiff, Qm4, Qnq, QW, QM, aBin, Xn, XE, aLen, Q0, Ym, QmS, Qnm, QmU, Qnb, Xr, goInt, Qno, ti24, zi24, sp24, hsl, z1]) | (with_reducible (first | refine Qi fun K hK => ?_ | refine Qm ?_ | refine QA ?_)) | ((with_reducible refine hK _ ?_); clear hK) | (refine Qk rfl ?_; simp only [↓reduceIte]))
    simp -implicitDefEqProofs only [Qg, Qo, QB, ↓reduceIte, Qm5, Qm6, Nat.reduceAdd, Nat.reduceEqDiff, Qm4, Qnq, QG, QH, Q0, QmS, QmU, QmX, QmY, ti24, List.mapM_cons, List.mapM_nil, Option.pure_def, Option.bind_eq_bind, QG, QH, Q0, QN, Qp, Qw, Qm2]
    exact Qh (htake _ _) (Qer _ _ _) ⟨rfl, rfl⟩
  · have z1 : ¬ ((sb.size : Nat) : Int) > 16384 := by omega
    have hb : sb.size ≤ 1000000 := by omega
    have hj : h.length + 1 < (h ++ [zT0, rr sb sb.data.toList 0]).length := by rw [List.length_append]; show h.length + 1 < h.length + 2; omega
    have cE := QgX hb (sb.data.toList.length + 1) (by omega) sb.data.toList (Qfq sb) (by omega) (h ++ [zT0, rr sb sb.data.toList 0]) (h.length + 1) hj
    rw [QcG] at cE
    cases hx : Zz (sb.data.toList.length + 1) sb.data.toList with
    | mk t x2 =>
    obtain ⟨q, e⟩ := x2
    have hq : Suf sb q := by
      have := QbK (sb.data.toList.length + 1) sb.data.toList
      rw [hx] at this; exact this
    have cE' : Xf Tryz.prog 50 [.ptr (h.length + 1) 0 0] (h ++ [zT0, rrA sb 0 0]) fun o h' => o = .ret t.av ∧ h' = h ++ [zT0, rrA sb (ps sb q : Nat) e] := by
      have e1 : rr sb sb.data.toList 0 = rrA sb 0 0 := by rw [rr, QiW]; rfl
      rw [e1] at cE
      refine cE.mono fun o h' w => ?_
      rw [DQ, hx, ← e1, QcG] at w
      exact w
    have cN : Xf Tryz.prog 51 [.ptr (h.length + 1) 0 0] (h ++ [zT0, rrA sb (ps sb q : Nat) e, cT t.av]) fun o h' => o = .ret (.tup []) ∧ h' = h ++ [zT0, rrA sb (ps sb (QV q) : Nat) (rEnd q e), cT t.av] := by
      have hj2 : h.length + 1 < (h ++ [zT0, rr sb q e]).length := by rw [List.length_append]; show h.length + 1 < h.length + 2; omega
      have := QfR hb hq e hj2 [cT t.av]
      simp only [QcG, List.append_assoc, Qnk, Qnj] at this
      exact this
    rw [QlX _ hl hx]
    by_cases h0 : rEnd q e ≠ 0
    · have z2 : (rEnd q e == 0) = false := by simpa using h0
      have z3 : (rEnd q e != 0) = true := by simpa using h0
      rw [if_pos h0]
      refine Qe Tryz.func19 rfl Tryz.call19 Tryz.ntmps19 (congrArg Array.toList Tryz.results19) (by simp) ?_
      repeat (first | ((first | (with_reducible (first | refine Qa fun K E hK hE => ?_ | refine FunW.ret (FunW.call cE') ?_ | refine FunW.ret (FunW.call cN) ?_))); simp -implicitDefEqProofs only [Qd, Qb, Qf, OpW, QQ, aop, undef, AS.ev, Qc, QL, Qn, Qt, Qg, Qv, QmZ, AV.Qmr, Qo, QT, QB, Qnc, Qnd, Qs, Qu, QE, QI, Qne, ↓reduceIte, Qm5, Qm6, Nat.reduceAdd, Nat.reduceLT, Nat.reduceLeDiff, Nat.reduceEqDiff, Qm4, Qnq, Ql, QG, QH, QW, QM, aBin, Xn, XE, aLen, hget, hset, hlen, happ, QmS, QmT, Qnm, Qnn, QmU, QmX, QmV, Qm7, Qnb, Qnk, Qnj, Qna, Qm1, Qm9, QR, Q2, Xr, goInt, Qnp, QmW, beq_true, T.Qmp, T.Qmq, ti24, zi24, ti38, XI, zi80, sp80, QC, hsl, z1, z2, z3, T.Qmp, T.Qmq]) | (with_reducible (first | refine Qi fun K hK => ?_ | refine QD ?_ | refine Qj ?_)) | ((with_reducible refine hK _ ?_); clear hK) | (refine Qk rfl ?_; simp only [↓reduceIte, QmW]))
      refine Qac (h.length + 1) 4 0 0 (by simp only [hget]; rfl) rfl ?_
      simp only [hset, Qnm, Qnn]
      refine XO (id := 9) [(0, 0), (1, 1), (2, 1), (3, 1), (4, 1), (5, 2), (6, 0)] mixed (by kernel_rfl) fun K hK => ?_
      simp -implicitDefEqProofs only [Q1, QX, Q8, Qf, aop, undef, AS.ev, Qc, QL, Qg, Qv, AV.Qmr, Qo, QB, Qnc, Qnd, Qs, Qu, QE, Qne, ↓reduceIte, Qm5, Qm6, Nat.reduceAdd, Nat.reduceLT, Nat.reduceEqDiff, Qm4, Qnq, Ql, QG, QH, QW, QM, Xn, XE, Q0, Ym, QmS, QmT, Qnm, QmU, QmV, Qnb, ti24, zi24, sp24, ti38, XI, QC]
      repeat (first | (with_reducible (first | refine Qm ?_ | refine Qj ?_ | refine QA ?_)) | ((with_reducible refine hK _ ?_); clear hK))
      simp -implicitDefEqProofs only [Qg, Qo, QB, ↓reduceIte, Qm5, Qm6, Nat.reduceAdd, Nat.reduceEqDiff, Qm4, Qnq, QG, QH, Q0, QmS, QmU, QmX, QmY, ti24, List.mapM_cons, List.mapM_nil, Option.pure_def, Option.bind_eq_bind, QG, QH, Q0, QN, Qp, Qw, Qm2]
      exact Qh (htake _ _) (Qer _ _ _) ⟨rfl, rfl⟩
    · have h00 : rEnd q e = 0 := by
        apply Classical.byContradiction; intro hc; exact h0 hc
      obtain ⟨ho, hn⟩ := Qmh _ (by omega) hx h00
      have cr := QbA t hn ho
      rw [h00] at cN
      have z2 : ((0 : Int) == 0) = true := rfl
      have z3 : ((0 : Int) != 0) = false := rfl
      have z4 : ((6 : Int) != 0) = true := rfl
      rw [if_neg h0]
      cases hr : (t.run 200 20).1 with
      | true =>
        rw [hr] at cr
        rw [if_pos rfl]
        refine Qe Tryz.func19 rfl Tryz.call19 Tryz.ntmps19 (congrArg Array.toList Tryz.results19) (by simp) ?_
        repeat (first | ((first | (with_reducible (first | refine Qa fun K E hK hE => ?_ | refine Qz cr ?_ | refine FunW.ret (FunW.call cE') ?_ | refine FunW.ret (FunW.call cN) ?_))); simp -implicitDefEqProofs only [Qd, Qb, Qf, OpW, QQ, aop, undef, AS.ev, Qc, QL, Qn, Qg, Qv, QmZ, AV.Qmr, Qo, QT, QB, Qnc, Qnd, Qs, Qu, QE, QI, Qne, Qnf, ↓reduceIte, Qm5, Qm6, Nat.reduceAdd, Nat.reduceLT, Nat.reduceLeDiff, Nat.reduceEqDiff, Qm4, Qnq, Ql, QG, QH, QW, QM, aBin, Xn, XE, aLen, Q0, hget, Ym, hset, hlen, happ, QmS, QmT, Qnm, Qnn, QmU, QmX, QmV, Qm7, Qnb, Qnk, Qnj, Qna, Qm1, Qm9, QR, Q2, Xr, Xp, goInt, Qnp, Qm0, QnD, T.Qmp, T.Qmq, ti24, zi24, ti38, XI, zi80, sp80, QC, hsl, z1, T.Qmp, T.Qmq]) | (with_reducible (first | refine Qi fun K hK => ?_ | refine Qm ?_ | refine QD ?_ | refine Qj ?_)) | ((with_reducible refine hK _ ?_); clear hK) | (refine Qk rfl ?_; simp only [↓reduceIte, QmW]))
        simp -implicitDefEqProofs only [Qg, ↓reduceIte, Qm5, Qm6, Nat.reduceAdd, Nat.reduceEqDiff, Qm4, Qnq, QG, QH, Q0, QmS, QmU, QmX, QmY, T.Qmp, T.Qmq, ti24, List.mapM_cons, List.mapM_nil, Option.pure_def, Option.bind_eq_bind, QG, QH, Q0, T.Qmp, T.Qmq, QN, Qp, Qw, Qm2]
        exact Qh (htake _ _) (.tup rfl (Xd (.keep (T.Qmu _ t)) (XS (.keep (.v _))))) ⟨rfl, rfl⟩
      | false =>
        rw [hr] at cr
        rw [if_neg (by decide)]
        refine Qe Tryz.func19 rfl Tryz.call19 Tryz.ntmps19 (congrArg Array.toList Tryz.results19) (by simp) ?_
        repeat (first | ((first | (with_reducible (first | refine Qa fun K E hK hE => ?_ | refine Qr fun K E hK hE => ?_ | refine Qz cr ?_ | refine FunW.ret (FunW.call cE') ?_ | refine FunW.ret (FunW.call cN) ?_))); simp -implicitDefEqProofs only [Qd, Qb, Qf, OpW, QQ, aop, undef, AS.ev, Qc, QL, Qn, Qg, Qv, QmZ, AV.Qmr, Qo, QT, QB, Q7, Qnc, Qnd, Qs, Qu, QE, QI, Qne, Qng, ↓reduceIte, Qm5, Qm6, Nat.reduceAdd, Nat.reduceLT, Nat.reduceLeDiff, Nat.reduceEqDiff, Qm4, Qnq, Ql, QG, QH, QW, QM, aBin, Xn, XE, aLen, hget, hset, hlen, happ, QmS, QmT, Qnm, Qnn, QmU, QmX, QmV, Qm7, Qnb, Qnk, Qnj, Qnl, Qm3, Qna, Qm1, Qm9, QR, Q2, Xr, Xp, goInt, Qnp, Qm0, QmW, T.Qmp, T.Qmq, ti24, zi24, ti38, XI, zi80, sp80, QC, hsl, z1, z4, T.Qmp, T.Qmq]) | (with_reducible (first | refine Qi fun K hK => ?_ | refine QD ?_ | refine Qj ?_)) | ((with_reducible refine hK _ ?_); clear hK) | (refine Qk rfl ?_; simp only [↓reduceIte, QmW]))
        refine Qac (h.length + 1) 4 0 0 (by simp only [hget]; rfl) rfl ?_
        simp only [hset, Qnm, Qnn]
        refine XO (id := 9) [(0, 0), (1, 1), (2, 1), (3, 1), (4, 1), (5, 2), (6, 0)] mixed (by kernel_rfl) fun K hK => ?_
        simp -implicitDefEqProofs only [Q1, QX, Q8, Qf, aop, undef, AS.ev, Qc, QL, Qg, Qv, AV.Qmr, Qo, QB, Qnc, Qnd, Qs, Qu, QE, Qne, ↓reduceIte, Qm5, Qm6, Nat.reduceAdd, Nat.reduceLT, Nat.reduceEqDiff, Qm4, Qnq, Ql, QG, QH, QW, QM, Xn, XE, Q0, Ym, QmS, QmT, Qnm, QmU, QmV, Qnb, ti24, zi24, sp24, ti38, XI, QC]
        repeat (first | (with_reducible (first | refine Qm ?_ | refine Qj ?_ | refine QA ?_)) | ((with_reducible refine hK _ ?_); clear hK))
        simp -implicitDefEqProofs only [Qg, Qo, QB, ↓reduceIte, Qm5, Qm6, Nat.reduceAdd, Nat.reduceEqDiff, Qm4, Qnq, QG, QH, Q0, QmS, QmU, QmX, QmY, ti24, List.mapM_cons, List.mapM_nil, Option.pure_def, Option.bind_eq_bind, QG, QH, Q0, QN, Qp, Qw, Qm2]
        exact Qh (htake _ _) (Qer _ _ _) ⟨rfl, rfl⟩
end Go.Proofs.YtehjodmnajgdgaaGreatDoor.Ab
set_option maxRecDepth 4000
namespace Go.Proofs.YtehjodmnajgdgaaGreatDoor.Ab
open Go.Proofs
def zG : G := ⟨0, eB, []⟩
def nmG (l : List UInt8) (x : RL) : G := ⟨0, mkB (l.takeWhile isW), x.1⟩
def rFin (g : G) (e : Int) : G × Int := if e ≠ 0 then (zG, e) else if Xc g = true then (g, 0) else (zG, 6)
def rPA (l : List UInt8) : G × Int := if 16384 < l.length then (zG, 6) else match QV l with
  | [] => (zG, 16)
  | c :: r => if 97 ≤ c.toNat ∧ c.toNat ≤ 122 then rFin (nmG (c :: r) (rName (Zz (l.length + 1)) (c :: r))) (rEnd (rName (Zz (l.length + 1)) (c :: r)).2.1 (rName (Zz (l.length + 1)) (c :: r)).2.2) else (zG, 16)
theorem Ql4 (l : List UInt8) : .tup [(rPA l).1.atom, .i (rPA l).2] = aRes (QaR true l) := by
  unfold rPA QaR
  by_cases hl : 16384 < l.length
  · rw [if_pos hl, if_pos hl]; rfl
  · rw [if_neg hl, if_neg hl]
    cases hsk : QV l with
    | nil => rfl
    | cons c r =>
      simp only
      by_cases hc : 97 ≤ c.toNat ∧ c.toNat ≤ 122
      · rw [if_pos hc, if_pos hc]
        have h := QdV (Qa8 (l.length + 1)) (Zx true _) c r hc.1
        cases hp : Z8 (QaQ true (l.length + 1)) (c :: r) with
        | err e =>
          rw [hp] at h
          obtain ⟨h1, h2⟩ := h.err
          simp only at h1
          simp only [rEnd, rFin, h1]
          rw [if_pos h2, if_pos h2]; rfl
        | ok t r2 =>
          rw [hp] at h
          have h := h.ok
          generalize rName (Zz (l.length + 1)) (c :: r) = X at h ⊢
          obtain ⟨X1, X2, X3⟩ := X
          simp only [Prod.mk.injEq] at h
          obtain ⟨rfl, rfl, rfl⟩ := h
          simp only [rEnd, rFin, ne_eq, not_true_eq_false, if_false]
          by_cases hs : QV X2 = []
          · simp only [hs, not_true_eq_false, if_false]
            split
            · rename_i hg
              rw [if_pos (by exact hg)]; rfl
            · rename_i hg
              rw [if_neg (by exact hg)]; rfl
          · simp only [hs, not_false_eq_true, if_true]
            rfl
      · rw [if_neg hc, if_neg hc]; rfl
theorem Qmm (l : List UInt8) (hb : l.length ≤ 900000) (c : UInt8) (r : List UInt8) (hsk : QV l = c :: r) (hc : 97 ≤ c.toNat ∧ c.toNat ≤ 122) (h0 : rEnd (rName (Zz (l.length + 1)) (c :: r)).2.1 (rName (Zz (l.length + 1)) (c :: r)).2.2 = 0) :
    (nmG (c :: r) (rName (Zz (l.length + 1)) (c :: r))).ok ∧ ndsL (nmG (c :: r) (rName (Zz (l.length + 1)) (c :: r))).args ≤ 1000000 := by
  have h := QdV (Qa8 (l.length + 1)) (Zx true _) c r hc.1
  have hlt := Xe hsk
  cases hp : Z8 (QaQ true (l.length + 1)) (c :: r) with
  | err e =>
    rw [hp] at h
    obtain ⟨h1, h2⟩ := h.err
    simp only at h1
    rw [rEnd, if_pos (by rw [h1]; exact h2)] at h0
    exact absurd (h1.symm.trans h0) h2
  | ok t r2 =>
    rw [hp] at h
    have h := h.ok
    obtain ⟨o, n⟩ := Qkj (Qhi true (l.length + 1)) (Qgb (Qg2 hc)) hp
    generalize rName (Zz (l.length + 1)) (c :: r) = X at h ⊢
    obtain ⟨X1, X2, X3⟩ := X
    simp only [Prod.mk.injEq] at h
    obtain ⟨rfl, rfl, rfl⟩ := h
    obtain ⟨o1, o2, o3, o4⟩ := o
    simp only [T.nds, Qm5] at n
    refine ⟨⟨o2, o3, o4⟩, ?_⟩
    show ndsL X1 ≤ 1000000
    omega
abbrev zA0 : AB := .cells 34 2 [z2]
theorem Qef (sb : ByteArray) (hm : sb.size ≤ 9223372036854775807) : Pure Tryz.prog 21 [.v (.string sb)] (.tup [(rPA sb.data.toList).1.atom, .i (rPA sb.data.toList).2]) := by
  intro h
  have hsl := fun b => Yf Tryz.prog 9 3 (by kernel_rfl) b
  have hSz : sb.data.toList.length = sb.size := by simp
  by_cases hl : 16384 < sb.data.toList.length
  · have e5 : rPA sb.data.toList = (zG, 6) := by unfold rPA; rw [if_pos hl]
    have z1 : ((sb.size : Nat) : Int) > 16384 := by omega
    rw [e5]
    refine Qe Tryz.func21 rfl Tryz.call21 Tryz.ntmps21 (congrArg Array.toList Tryz.results21) (by simp) ?_
    repeat (first | (((with_reducible refine Qa fun K E hK hE => ?_)); simp -implicitDefEqProofs only [Qd, Qb, Qf, OpW, aop, undef, AS.ev, Qc, QL, Qn, Qg, Qv, QmZ, AV.Qmr, Qo, QB, Qnc, Qnd, Qu, QE, Qne, ↓reduceIte, Qm5, Qm6, Nat.reduceAdd, Nat.reduceLT, Nat.reduceEqDiff, Qm4, Qnq, QW, QM, aBin, Xn, XE, aLen, Q0, Ym, QmS, Qnm, QmU, Qnb, Xr, goInt, Qno, ti34, zi34, sp34, hsl, z1]) | (with_reducible (first | refine Qi fun K hK => ?_ | refine Qm ?_ | refine QA ?_)) | ((with_reducible refine hK _ ?_); clear hK) | (refine Qk rfl ?_; simp only [↓reduceIte]))
    simp -implicitDefEqProofs only [Qg, Qo, QB, ↓reduceIte, Qm5, Qm6, Nat.reduceAdd, Nat.reduceEqDiff, Qm4, Qnq, QG, QH, Q0, QmS, QmU, QmX, QmY, ti34, List.mapM_cons, List.mapM_nil, Option.pure_def, Option.bind_eq_bind, QG, QH, Q0, QN, Qp, Qw, Qm2]
    exact Qh (htake _ _) (Qb5 _ _ _) ⟨rfl, rfl⟩
  · have z1 : ¬ ((sb.size : Nat) : Int) > 16384 := by omega
    have hb : sb.size ≤ 1000000 := by omega
    have e1 : rr sb sb.data.toList 0 = rrA sb 0 0 := by rw [rr, QiW]; rfl
    have hj : ∀ (x y : AB), h.length + 1 < (h ++ [x, y]).length := fun x y => by rw [List.length_append]; show h.length + 1 < h.length + 2; omega
    have cn := Yq hb (Qfq sb) (hj zA0 (rr sb sb.data.toList 0)) []
    simp only [QcG, Qnl] at cn
    have hsS := (Qfq sb).skip
    cases hsk : QV sb.data.toList with
    | nil =>
      have e5 : rPA sb.data.toList = (zG, 16) := by unfold rPA; rw [if_neg hl, hsk]
      rw [show nx sb.data.toList = 0 by rw [nx, hsk], hsk] at cn
      have cn' : Xf Tryz.prog 56 [.ptr (h.length + 1) 0 0] (h ++ [zA0, rrA sb 0 0]) fun o h' => o = .ret (.v (.int .u8 ((0 : Nat) : Int))) ∧ h' = h ++ [zA0, rr sb [] 0] := by rw [← e1]; exact cn
      have y1 : ((0 : Nat) : Int) < 97 := by decide
      have y2 : (0 : Int) < 97 := by decide
      rw [e5]
      refine Qe Tryz.func21 rfl Tryz.call21 Tryz.ntmps21 (congrArg Array.toList Tryz.results21) (by simp) ?_
      repeat (first | ((first | (with_reducible (first | refine Qa fun K E hK hE => ?_ | refine FunW.ret (FunW.call cn') ?_))); simp -implicitDefEqProofs only [Qd, Qb, Qf, OpW, QQ, aop, undef, AS.ev, Qc, QL, Qn, Qt, Qg, Qv, QmZ, AV.Qmr, Qo, QT, QB, Qnc, Qnd, Qs, Qu, QE, Qne, Qnf, ↓reduceIte, Qm5, Qm6, Nat.reduceAdd, Nat.reduceLT, Nat.reduceLeDiff, Nat.reduceEqDiff, Qm4, Qnq, QW, QM, aBin, Xn, XE, aLen, Q0, Ym, hlen, happ, QmS, QmT, Qnm, QmU, QmX, QmV, Qm7, Qnb, Qnk, Qnj, Qna, Qm1, Qm9, Q3, Xr, goInt, Qno, Qnp, QnE, beq_false, ti34, zi34, sp34, zi80, sp80, hsl, z1, y2]) | (with_reducible (first | refine Qi fun K hK => ?_ | refine Qm ?_ | refine QD ?_ | refine Qj ?_ | refine QA ?_)) | ((with_reducible refine hK _ ?_); clear hK) | (refine Qk rfl ?_; simp only [↓reduceIte, QmW]))
      simp -implicitDefEqProofs only [Qg, Qo, QB, ↓reduceIte, Qm5, Qm6, Nat.reduceAdd, Nat.reduceEqDiff, Qm4, Qnq, QG, QH, Q0, QmS, QmU, QmX, QmY, ti34, List.mapM_cons, List.mapM_nil, Option.pure_def, Option.bind_eq_bind, QG, QH, Q0, QN, Qp, Qw, Qm2]
      exact Qh (htake _ _) (Qb5 _ _ _) ⟨rfl, rfl⟩
    | cons c r =>
      rw [hsk] at hsS
      rw [show nx sb.data.toList = c.toNat by rw [nx, hsk], hsk] at cn
      have cn' : Xf Tryz.prog 56 [.ptr (h.length + 1) 0 0] (h ++ [zA0, rrA sb 0 0]) fun o h' => o = .ret (.v (.int .u8 ((c.toNat : Nat) : Int))) ∧ h' = h ++ [zA0, rr sb (c :: r) 0] := by rw [← e1]; exact cn
      by_cases hc : 97 ≤ c.toNat ∧ c.toNat ≤ 122
      · have e5 : rPA sb.data.toList = rFin (nmG (c :: r) (rName (Zz (sb.data.toList.length + 1)) (c :: r))) (rEnd (rName (Zz (sb.data.toList.length + 1)) (c :: r)).2.1 (rName (Zz (sb.data.toList.length + 1)) (c :: r)).2.2) := by
          unfold rPA; rw [if_neg hl, hsk]; simp only; rw [if_pos hc]
        have y1 : ¬ ((c.toNat : Nat) : Int) < 97 := by omega
        have y2 : ¬ ((c.toNat : Nat) : Int) > 122 := by omega
        have hok := Qmm sb.data.toList (by omega) c r hsk hc
        have cNm := Qew hb hsS (hj zA0 (rr sb (c :: r) 0)) []
        simp only [QcG, Qnl] at cNm
        have hlt := Xe hsk
        have hdw := Z6 isW (c :: r)
        have hsD := hsS.drop isW
        have hqS : Suf sb (rName (Zz (sb.data.toList.length + 1)) (c :: r)).2.1 := (QjF (QbK _) _).trans hsS
        have cAr : Xf Tryz.prog 58 [.ptr (h.length + 1) 0 0] (h ++ [zA0, rr sb ((c :: r).dropWhile isW) (if Yp (mkB ((c :: r).takeWhile isW)) = true then 0 else 7)]) fun o h' => o = .ret (.sl 4 (avs (rName (Zz (sb.data.toList.length + 1)) (c :: r)).1) none) ∧ h' = h ++ [zA0, rr sb (rName (Zz (sb.data.toList.length + 1)) (c :: r)).2.1 (rName (Zz (sb.data.toList.length + 1)) (c :: r)).2.2] := by
          unfold rName
          by_cases hg : Yp (mkB ((c :: r).takeWhile isW)) = true
          · rw [if_pos hg, if_pos hg]
            have := QeA hb (QgX hb (sb.data.toList.length + 1) (by omega)) (QbK _) (by omega) ((c :: r).dropWhile isW) hsD (by simp only [Qm5] at hdw; omega) _ _ (hj zA0 (rr sb ((c :: r).dropWhile isW) 0))
            simp only [QcG] at this
            exact this
          · rw [if_neg hg, if_neg hg]
            have := QdY hb (show (7 : Int) ≠ 0 by decide) hsD (hj zA0 (rr sb ((c :: r).dropWhile isW) 7)) []
            simp only [QcG, Qnl] at this
            exact this
        rw [e5]
        have hG : (AV.agg [.v (.string (mkB ((c :: r).takeWhile isW))), .sl 4 (avs (rName (Zz (sb.data.toList.length + 1)) (c :: r)).1) none]) = (nmG (c :: r) (rName (Zz (sb.data.toList.length + 1)) (c :: r))).atom := rfl
        generalize nmG (c :: r) (rName (Zz (sb.data.toList.length + 1)) (c :: r)) = g at *
        generalize rName (Zz (sb.data.toList.length + 1)) (c :: r) = X at *
        obtain ⟨X1, q, e⟩ := X
        simp only at hqS cAr hG hok ⊢
        have cN : Xf Tryz.prog 51 [.ptr (h.length + 1) 0 0] (h ++ [zA0, rr sb q e, cA g.atom]) fun o h' => o = .ret (.tup []) ∧ h' = h ++ [zA0, rrA sb (ps sb (QV q) : Nat) (rEnd q e), cA g.atom] := by
          have := QfR hb hqS e (hj zA0 (rr sb q e)) [cA g.atom]
          simp only [QcG, List.append_assoc, Qnk, Qnj] at this
          exact this
        rw [rFin]
        by_cases h0 : rEnd q e ≠ 0
        · have z2' : (rEnd q e == 0) = false := by simpa using h0
          have z3 : (rEnd q e != 0) = true := by simpa using h0
          rw [if_pos h0]
          refine Qe Tryz.func21 rfl Tryz.call21 Tryz.ntmps21 (congrArg Array.toList Tryz.results21) (by simp) ?_
          repeat (first | ((first | (with_reducible (first | refine Qa fun K E hK hE => ?_ | refine FunW.ret (FunW.call cn') ?_ | refine FunW.ret (FunW.call cNm) ?_ | refine FunW.ret (FunW.call cAr) ?_ | refine FunW.ret (FunW.call cN) ?_))); simp -implicitDefEqProofs only [Qd, Qb, Qf, OpW, QQ, aop, undef, AS.ev, Qc, QL, Qn, Qt, Qg, Qv, QmZ, AV.Qmr, Qo, QT, Xv, QB, Qnc, Qnd, Qs, Qu, QE, QI, Qne, ↓reduceIte, Qm5, Qm6, Nat.reduceAdd, Nat.reduceLT, Nat.reduceLeDiff, Nat.reduceEqDiff, Qm4, Qnq, Ql, QG, QH, QW, QM, aBin, Xn, XE, aLen, hget, hset, hlen, happ, QmS, QmT, Qnm, Qnn, QmU, QmX, QmV, Qm7, Qnb, Qnk, Qnj, Qnl, Qm3, Qna, Qm1, Qm9, QR, Q2, Q3, Xr, goInt, Qnp, Qm0, QmW, beq_true, ti34, zi34, sp34, ti38, XI, zi80, sp80, QC, hsl, z1, y1, y2, z2', z3, hG, Xy, Yc]) | (with_reducible (first | refine Qi fun K hK => ?_ | refine QD ?_ | refine Qj ?_)) | ((with_reducible refine hK _ ?_); clear hK) | (refine Qk rfl ?_; simp only [↓reduceIte, QmW]))
          refine Qac (h.length + 1) 4 0 0 (by simp only [hget]; rfl) rfl ?_
          simp only [hset, Qnm, Qnn]
          refine XO (id := 13) [(0, 0), (1, 1), (2, 1), (3, 1), (4, 1), (5, 2), (6, 0)] mixed (by kernel_rfl) fun K hK => ?_
          simp -implicitDefEqProofs only [Q1, QX, Q8, Qf, aop, undef, AS.ev, Qc, QL, Qg, Qv, AV.Qmr, Qo, QB, Qnc, Qnd, Qu, QE, Qne, ↓reduceIte, Qm5, Qm6, Nat.reduceAdd, Nat.reduceLT, Nat.reduceEqDiff, Qm4, Qnq, Ql, QG, QH, QW, QM, Xn, XE, Q0, Ym, QmS, QmT, Qnm, QmU, QmV, Qnb, ti34, zi34, sp34, ti38, XI, QC]
          repeat (first | (with_reducible (first | refine Qm ?_ | refine Qj ?_ | refine QA ?_)) | ((with_reducible refine hK _ ?_); clear hK))
          simp -implicitDefEqProofs only [Qg, Qo, QB, ↓reduceIte, Qm5, Qm6, Nat.reduceAdd, Nat.reduceEqDiff, Qm4, Qnq, QG, QH, Q0, QmS, QmU, QmX, QmY, ti34, List.mapM_cons, List.mapM_nil, Option.pure_def, Option.bind_eq_bind, QG, QH, Q0, QN, Qp, Qw, Qm2]
          exact Qh (htake _ _) (Qb5 _ _ _) ⟨rfl, rfl⟩
        · have h00 : rEnd q e = 0 := by
            apply Classical.byContradiction; intro hc; exact h0 hc
          obtain ⟨ho, hn⟩ := hok h00
          have cr := Qcz g hn ho
          rw [h00] at cN
          have z2' : ((0 : Int) == 0) = true := rfl
          have z3 : ((0 : Int) != 0) = false := rfl
          have z4' : ((6 : Int) != 0) = true := rfl
          rw [if_neg h0]
          cases hr : Xc g with
          | true =>
            rw [hr] at cr
            rw [if_pos rfl]
            refine Qe Tryz.func21 rfl Tryz.call21 Tryz.ntmps21 (congrArg Array.toList Tryz.results21) (by simp) ?_
            repeat (first | ((first | (with_reducible (first | refine Qa fun K E hK hE => ?_ | refine Qz cr ?_ | refine FunW.ret (FunW.call cn') ?_ | refine FunW.ret (FunW.call cNm) ?_ | refine FunW.ret (FunW.call cAr) ?_ | refine FunW.ret (FunW.call cN) ?_))); simp -implicitDefEqProofs only [Qd, Qb, Qf, OpW, QQ, aop, undef, AS.ev, Qc, QL, Qn, Qg, Qv, QmZ, AV.Qmr, Qo, QT, Xv, QB, Qnc, Qnd, Qs, Qu, QE, QI, Qne, Qnf, ↓reduceIte, Qm5, Qm6, Nat.reduceAdd, Nat.reduceLT, Nat.reduceLeDiff, Nat.reduceEqDiff, Qm4, Qnq, Ql, QG, QH, QW, QM, aBin, Xn, XE, aLen, Q0, hget, Ym, hset, hlen, happ, QmS, QmT, Qnm, Qnn, QmU, QmX, QmV, Qm7, Qnb, Qnk, Qnj, Qnl, Qm3, Qna, Qm1, Qm9, QR, Q2, Q3, Xr, Xp, goInt, Qnp, Qm0, QnD, QmW, ti34, zi34, sp34, ti38, XI, zi80, sp80, QC, hsl, z1, y1, y2, hG, Xy, Yc]) | (with_reducible (first | refine Qi fun K hK => ?_ | refine Qm ?_ | refine QD ?_ | refine Qj ?_)) | ((with_reducible refine hK _ ?_); clear hK) | (refine Qk rfl ?_; simp only [↓reduceIte, QmW]))
            simp -implicitDefEqProofs only [Qg, ↓reduceIte, Qm5, Qm6, Nat.reduceAdd, Nat.reduceEqDiff, Qm4, Qnq, QG, QH, Q0, QmS, QmU, QmX, QmY, ti34, List.mapM_cons, List.mapM_nil, Option.pure_def, Option.bind_eq_bind, QG, QH, Q0, Xy, Yc, QN, Qp, Qw, Qm2]
            exact Qh (htake _ _) (.tup rfl (Xd (.keep (.agg _ (QbX _ g))) (XS (.keep (.v _))))) ⟨rfl, rfl⟩
          | false =>
            rw [hr] at cr
            rw [if_neg (by decide)]
            refine Qe Tryz.func21 rfl Tryz.call21 Tryz.ntmps21 (congrArg Array.toList Tryz.results21) (by simp) ?_
            repeat (first | ((first | (with_reducible (first | refine Qa fun K E hK hE => ?_ | refine Qr fun K E hK hE => ?_ | refine Qz cr ?_ | refine FunW.ret (FunW.call cn') ?_ | refine FunW.ret (FunW.call cNm) ?_ | refine FunW.ret (FunW.call cAr) ?_ | refine FunW.ret (FunW.call cN) ?_))); simp -implicitDefEqProofs only [Qd, Qb, Qf, OpW, QQ, aop, undef, AS.ev, Qc, QL, Qn, Qg, Qv, QmZ, AV.Qmr, Qo, QT, Xv, QB, Q7, Qnc, Qnd, Qs, Qu, QE, QI, Qne, Qng, ↓reduceIte, Qm5, Qm6, Nat.reduceAdd, Nat.reduceLT, Nat.reduceLeDiff, Nat.reduceEqDiff, Qm4, Qnq, Ql, QG, QH, QW, QM, aBin, Xn, XE, aLen, hget, hset, hlen, happ, QmS, QmT, Qnm, Qnn, QmU, QmX, QmV, Qm7, Qnb, Qnk, Qnj, Qnl, Qm3, Qna, Qm1, Qm9, QR, Q2, Q3, Xr, Xp, goInt, Qnp, Qm0, QmW, ti34, zi34, sp34, ti38, XI, zi80, sp80, QC, hsl, z1, y1, y2, z4', hG, Xy, Yc]) | (with_reducible (first | refine Qi fun K hK => ?_ | refine QD ?_ | refine Qj ?_)) | ((with_reducible refine hK _ ?_); clear hK) | (refine Qk rfl ?_; simp only [↓reduceIte, QmW]))
            refine Qac (h.length + 1) 4 0 0 (by simp only [hget]; rfl) rfl ?_
            simp only [hset, Qnm, Qnn]
            refine XO (id := 13) [(0, 0), (1, 1), (2, 1), (3, 1), (4, 1), (5, 2), (6, 0)] mixed (by kernel_rfl) fun K hK => ?_
            simp -implicitDefEqProofs only [Q1, QX, Q8, Qf, aop, undef, AS.ev, Qc, QL, Qg, Qv, AV.Qmr, Qo, QB, Qnc, Qnd, Qu, QE, Qne, ↓reduceIte, Qm5, Qm6, Nat.reduceAdd, Nat.reduceLT, Nat.reduceEqDiff, Qm4, Qnq, Ql, QG, QH, QW, QM, Xn, XE, Q0, Ym, QmS, QmT, Qnm, QmU, QmV, Qnb, ti34, zi34, sp34, ti38, XI, QC]
            repeat (first | (with_reducible (first | refine Qm ?_ | refine Qj ?_ | refine QA ?_)) | ((with_reducible refine hK _ ?_); clear hK))
            simp -implicitDefEqProofs only [Qg, Qo, QB, ↓reduceIte, Qm5, Qm6, Nat.reduceAdd, Nat.reduceEqDiff, Qm4, Qnq, QG, QH, Q0, QmS, QmU, QmX, QmY, ti34, List.mapM_cons, List.mapM_nil, Option.pure_def, Option.bind_eq_bind, QG, QH, Q0, QN, Qp, Qw, Qm2]
            exact Qh (htake _ _) (Qb5 _ _ _) ⟨rfl, rfl⟩
      · have e5 : rPA sb.data.toList = (zG, 16) := by unfold rPA; rw [if_neg hl, hsk]; simp only; rw [if_neg hc]
        rw [e5]
        by_cases y1 : ((c.toNat : Nat) : Int) < 97
        · refine Qe Tryz.func21 rfl Tryz.call21 Tryz.ntmps21 (congrArg Array.toList Tryz.results21) (by simp) ?_
          repeat (first | ((first | (with_reducible (first | refine Qa fun K E hK hE => ?_ | refine FunW.ret (FunW.call cn') ?_))); simp -implicitDefEqProofs only [Qd, Qb, Qf, OpW, QQ, aop, undef, AS.ev, Qc, QL, Qn, Qt, Qg, Qv, QmZ, AV.Qmr, Qo, QT, QB, Qnc, Qnd, Qs, Qu, QE, Qne, Qnf, ↓reduceIte, Qm5, Qm6, Nat.reduceAdd, Nat.reduceLT, Nat.reduceLeDiff, Nat.reduceEqDiff, Qm4, Qnq, QW, QM, aBin, Xn, XE, aLen, Q0, Ym, hlen, happ, QmS, QmT, Qnm, QmU, QmX, QmV, Qm7, Qnb, Qnk, Qnj, Qna, Qm1, Qm9, Q3, Xr, goInt, Qno, Qnp, beq_false, ti34, zi34, sp34, zi80, sp80, hsl, z1, y1]) | (with_reducible (first | refine Qi fun K hK => ?_ | refine Qm ?_ | refine QD ?_ | refine Qj ?_ | refine QA ?_)) | ((with_reducible refine hK _ ?_); clear hK) | (refine Qk rfl ?_; simp only [↓reduceIte, QmW]))
          simp -implicitDefEqProofs only [Qg, Qo, QB, ↓reduceIte, Qm5, Qm6, Nat.reduceAdd, Nat.reduceEqDiff, Qm4, Qnq, QG, QH, Q0, QmS, QmU, QmX, QmY, ti34, List.mapM_cons, List.mapM_nil, Option.pure_def, Option.bind_eq_bind, QG, QH, Q0, QN, Qp, Qw, Qm2]
          exact Qh (htake _ _) (Qb5 _ _ _) ⟨rfl, rfl⟩
        · have y2 : ((c.toNat : Nat) : Int) > 122 := by omega
          refine Qe Tryz.func21 rfl Tryz.call21 Tryz.ntmps21 (congrArg Array.toList Tryz.results21) (by simp) ?_
          repeat (first | ((first | (with_reducible (first | refine Qa fun K E hK hE => ?_ | refine FunW.ret (FunW.call cn') ?_))); simp -implicitDefEqProofs only [Qd, Qb, Qf, OpW, QQ, aop, undef, AS.ev, Qc, QL, Qn, Qg, Qv, QmZ, AV.Qmr, Qo, QT, QB, Qnc, Qnd, Qs, Qu, QE, Qne, ↓reduceIte, Qm5, Qm6, Nat.reduceAdd, Nat.reduceLT, Nat.reduceLeDiff, Nat.reduceEqDiff, Qm4, Qnq, QW, QM, aBin, Xn, XE, aLen, Q0, Ym, hlen, happ, QmS, QmT, Qnm, QmU, QmX, QmV, Qm7, Qnb, Qnk, Qnj, Qna, Qm1, Qm9, Q3, Xr, goInt, Qno, Qnp, Qm0, QmW, ti34, zi34, sp34, zi80, sp80, hsl, z1, y1, y2]) | (with_reducible (first | refine Qi fun K hK => ?_ | refine Qm ?_ | refine QD ?_ | refine Qj ?_ | refine QA ?_)) | ((with_reducible refine hK _ ?_); clear hK) | (refine Qk rfl ?_; simp only [↓reduceIte, QmW]))
          simp -implicitDefEqProofs only [Qg, Qo, QB, ↓reduceIte, Qm5, Qm6, Nat.reduceAdd, Nat.reduceEqDiff, Qm4, Qnq, QG, QH, Q0, QmS, QmU, QmX, QmY, ti34, List.mapM_cons, List.mapM_nil, Option.pure_def, Option.bind_eq_bind, QG, QH, Q0, QN, Qp, Qw, Qm2]
          exact Qh (htake _ _) (Qb5 _ _ _) ⟨rfl, rfl⟩
end Go.Proofs.YtehjodmnajgdgaaGreatDoor.Ab
set_option maxRecDepth 4000
namespace Go.Proofs.YtehjodmnajgdgaaGreatDoor.Ab
open Go.Proofs
abbrev miB : ByteArray := { data := #[45] }
abbrev xI (i : Int) : T := .mk 0 i eB []
abbrev x21 : T := .mk 2 0 miB [xI 2, xI 1]
abbrev Qlh : T := .mk 2 0 miB [xI 7, x21]
def xT : T := .mk 2 0 ⟨#[42]⟩ [.mk 2 0 ⟨#[102]⟩ [.mk 1 1 eB [], .mk 0 2 eB []], .mk 0 3 eB []]
def xA : G := ⟨0, ⟨#[108, 101, 113]⟩, [.mk 1 0 eB [], .mk 2 0 ⟨#[97]⟩ []]⟩
def xG : G := ⟨11, { data := #[] }, [.mk 1 0 eB []]⟩
theorem exT1 : txtT Qlh = { data := #[55, 32, 45, 32, 40, 50, 32, 45, 32, 49, 41] } := by kernel_rfl
theorem exT2 : txtT xT = { data := #[102, 40, 86, 49, 44, 32, 50, 41, 32, 42, 32, 51] } := by kernel_rfl
theorem exT3 : txtA xA = { data := #[108, 101, 113, 40, 86, 48, 44, 32, 97, 41] } := by kernel_rfl
theorem exT4 : txtG xG = { data := #[105, 110, 116, 40, 86, 48, 41] } := by kernel_rfl
theorem QfE (h : AH) (hT : Tabs h) : Xf Tryz.prog 10 [] h fun o h' => o = .ret (.b true) ∧ h' = h := by
  have i7 := Qg8 7
  have i2 := Qg8 2
  have i1 := Qg8 1
  have v0 := Qlz 0
  have f1 := Qkf miB (xI 2) (xI 1)
  have f2 := Qkf miB (xI 7) x21
  have p1 : ∀ L, Xf Tryz.prog 18 [.v (.string { data := #[102, 40, 86, 49, 44, 50, 41, 42, 51] })] (h ++ L) fun o h' => o = .ret (.tup [xT.av, .i 0]) ∧ h' = h ++ L := fun L => by
    have := Qbl [102, 40, 86, 49, 44, 50, 41, 42, 51] (by simp) (h ++ L) (hT.app L)
    rw [exP1] at this
    exact this
  have p2 : ∀ L, Xf Tryz.prog 18 [.v (.string { data := #[102, 40, 88, 41] })] (h ++ L) fun o h' => o = .ret (.tup [(T.mk 0 0 eB []).av, .i 7]) ∧ h' = h ++ L := fun L => by
    have := Qbl [102, 40, 88, 41] (by simp) (h ++ L) (hT.app L)
    rw [exP2] at this
    exact this
  have p3 : ∀ L, Xf Tryz.prog 20 [.v (.string { data := #[108, 101, 113, 40, 32, 86, 48, 32, 44, 32, 97, 32, 41] })] (h ++ L) fun o h' => o = .ret (.tup [xA.atom, .i 0]) ∧ h' = h ++ L := fun L => by
    have := Qdl [108, 101, 113, 40, 32, 86, 48, 32, 44, 32, 97, 32, 41] (by simp) (h ++ L) (hT.app L)
    rw [exP3] at this
    exact this
  have p4 : ∀ L, Xf Tryz.prog 18 [.v (.string { data := #[49, 32, 50] })] (h ++ L) fun o h' => o = .ret (.tup [(T.mk 0 0 eB []).av, .i 16]) ∧ h' = h ++ L := fun L => by
    have := Qbl [49, 32, 50] (by simp) (h ++ L) (hT.app L)
    rw [exP4] at this
    exact this
  have c1 := fun L => QfD Qlh (h ++ L) (hT.app L).1
  have c2 := fun L => QfD xT (h ++ L) (hT.app L).1
  have c3 := fun L => Qe6 xA (by decide) (h ++ L) (hT.app L).1
  have c4 : ∀ L, Xf Tryz.prog 14 [.agg [.i 11, .v (.string { data := #[] }), .sl 4 [(T.mk 1 0 eB []).av] none]] (h ++ L) fun o h' => o = .ret (.v (.string (txtG xG))) ∧ h' = h ++ L := fun L => Qe5 xG (by decide) (h ++ L) (hT.app L).1
  rw [exT1] at c1
  rw [exT2] at c2
  rw [exT3] at c3
  rw [exT4] at c4
  refine Qe Tryz.func10 rfl Tryz.call10 Tryz.ntmps10 (congrArg Array.toList Tryz.results10) (by simp) ?_
  iterate 21 (try (first | ((first | (with_reducible (first | refine Qa fun K E hK hE => ?_ | refine Qz i7 ?_ | refine Qz i2 ?_ | refine Qz i1 ?_ | refine Qz f1 ?_ | refine Qz f2 ?_ | refine FunW.ret (FunW.call (p1 _)) ?_ | refine FunW.ret (FunW.call (p2 _)) ?_ | refine FunW.ret (FunW.call (p3 _)) ?_ | refine FunW.ret (FunW.call (p4 _)) ?_))); simp -implicitDefEqProofs only [Qd, Qb, Qf, OpW, QQ, aop, undef, AS.ev, Qc, QL, Qn, Qt, QO, Qg, Qv, AV.Qmr, Qo, QB, Qnc, Qnd, Qs, Qu, QE, QI, Qne, ↓reduceIte, Qm5, Qm6, Nat.reduceAdd, Nat.reduceLT, Nat.reduceLeDiff, Nat.reduceEqDiff, Nat.reduceMul, Qm4, Qnq, QW, QM, Xs, Q6, Q0, hget, Ym, hset, hlen, happ, QmS, QmT, Qnm, Qnn, QmU, Qm7, Qnb, Qnk, Qnj, Qm0, rng2, Xk, Nat.reducePow, T.Qmp, T.Qmq, ei22, ti24, zi24, ti34, zi34, T.Qmp, T.Qmq, Xy, Yc]) | ((with_reducible refine hK _ ?_); clear hK)))
  (with_reducible refine Qa fun K E hK hE => ?_)
  (try simp only [Qnt]); refine Qy 4 (fun K1 hK1 => ?_); simp -implicitDefEqProofs only [Qb, Qf, OpW, aop, AS.ev, Qc, Qg, ↓reduceIte, Qm5, Qm6, Nat.reduceAdd, Nat.reduceLT, Nat.reduceEqDiff, Qm4, Qnq, QG, QH, Q0, QmS, QmU, Qm7, Qnb, Qm3, Qna, T.Qmp, T.Qmq, ti24, T.Qmp, T.Qmq]; (repeat ((((with_reducible refine FunW.ret (FunW.call (c1 _)) ?_)); simp -implicitDefEqProofs only [Qd, Qb, Qf, OpW, QQ, aop, AS.ev, Qc, QO, Qg, ↓reduceIte, Nat.reduceLT, aBin, QmU, QY, Qm0]))); refine hK1 _ ?_; clear hK1
  (try simp only [Qm1, Qm9]); refine Qy 4 (fun K1 hK1 => ?_); simp -implicitDefEqProofs only [Qd, Qb, Qf, OpW, aop, AS.ev, Qc, Qn, Qg, ↓reduceIte, Nat.reduceLT, Nat.reduceEqDiff, aBin, QmS, QmT, QmU, QmX, QmV, Qm3, Qna, QR, Qm0]; refine hK1 _ ?_; clear hK1
  (try simp only [Qm1, Qm9]); refine Qy 6 (fun K1 hK1 => ?_); simp -implicitDefEqProofs only [Qb, Qf, OpW, aop, AS.ev, Qc, Qg, ↓reduceIte, Qm5, Qm6, Nat.reduceAdd, Nat.reduceLT, Nat.reduceEqDiff, Qm4, Qnq, QG, QH, hget, QmS, QmT, QmU, QmX, QmV, Qm7, Qnb, Qm3, Qna, Qm0, T.Qmp, T.Qmq, ti24, T.Qmp, T.Qmq]; (repeat ((((with_reducible refine FunW.ret (FunW.call (c2 _)) ?_)); simp -implicitDefEqProofs only [Qd, Qb, Qf, OpW, QQ, aop, AS.ev, Qc, QO, Qg, ↓reduceIte, Nat.reduceLT, Nat.reduceEqDiff, aBin, QmS, QmT, QmU, QmX, QmV, QY, Qm0]))); refine hK1 _ ?_; clear hK1
  (try simp only [Qm1, Qm9]); refine Qy 6 (fun K1 hK1 => ?_); simp -implicitDefEqProofs only [Qd, Qb, Qf, OpW, aop, AS.ev, Qc, Qn, Qg, ↓reduceIte, Nat.reduceLT, Nat.reduceEqDiff, aBin, QmS, QmT, QmU, QmX, QmV, Qm3, Qna, QR, Qm0]; refine hK1 _ ?_; clear hK1
  (try simp only [Qm1, Qm9]); refine Qy 6 (fun K1 hK1 => ?_); simp -implicitDefEqProofs only [Qb, Qf, OpW, aop, AS.ev, Qc, Qg, ↓reduceIte, Qm5, Qm6, Nat.reduceAdd, Nat.reduceLT, Nat.reduceEqDiff, Qm4, Qnq, QG, QH, hget, QmS, QmT, QmU, QmX, QmV, Qm7, Qnb, Qm3, Qna, Qm0, ti34, Xy, Yc]; (repeat ((((with_reducible refine FunW.ret (FunW.call (c3 _)) ?_)); simp -implicitDefEqProofs only [Qd, Qb, Qf, OpW, QQ, aop, AS.ev, Qc, QO, Qg, ↓reduceIte, Nat.reduceLT, Nat.reduceEqDiff, aBin, QmS, QmT, QmU, QmX, QmV, QY, Qm0]))); refine hK1 _ ?_; clear hK1
  (try simp only [Qm1, Qm9]); refine Qy 4 (fun K1 hK1 => ?_); simp -implicitDefEqProofs only [Qd, Qb, Qf, OpW, aop, AS.ev, Qc, Qn, Qg, ↓reduceIte, Nat.reduceLT, Nat.reduceEqDiff, aBin, QmS, QmT, QmU, QmX, QmV, Qm3, Qna, QR, Qm0]; refine hK1 _ ?_; clear hK1
  (try simp only [Qm1, Qm9])
  simp -implicitDefEqProofs only [Qb, Qf, OpW, AS.ev, Qn, Qg, ↓reduceIte, QmS, QmT, QmX, QmV, Qm7, Qnb, Qm0]
  repeat (first | ((first | (with_reducible (first | refine Qz v0 ?_ | refine FunW.ret (FunW.call (c4 _)) ?_))); simp -implicitDefEqProofs only [Qd, Qb, Qf, OpW, QQ, aop, undef, AS.ev, Qc, Qn, QO, Qg, Qv, AV.Qmr, Qo, QT, Xv, QB, Qnc, Qnd, Qs, Qu, QE, QI, Qne, ↓reduceIte, Qm5, Qm6, Nat.reduceAdd, Nat.reduceLT, Nat.reduceLeDiff, Nat.reduceEqDiff, Nat.reduceMul, Qm4, Qnq, aBin, Xn, XE, Q6, QmS, QmT, QmU, QmX, QmV, Qm7, Qnb, Qnk, Qnj, Qnl, Qm3, Qna, Qm1, Qm9, QY, Qm0, rng1, Xk, Nat.reducePow, T.Qmp, ei22, zi24, zi30, sp30]) | (with_reducible refine Qm ?_) | ((with_reducible refine hK _ ?_); clear hK))
  simp only [QN, Qp, Qw, upd, ↓reduceIte, QmY, Qm2]
  exact Qh (htake _ _) (.keep (.v _)) ⟨rfl, rfl⟩
end Go.Proofs.YtehjodmnajgdgaaGreatDoor.Ab
set_option maxRecDepth 4000
namespace Go.Proofs.YtehjodmnajgdgaaGreatDoor.Ab
open Go.Proofs
theorem Qjd {g : G} (h : Xc g = true) : Yp g.name = true ∧ ZC g.args = true ∧ sizes g.args ≤ 200 := by
  simp only [Xc, Bool.and_eq_true] at h
  obtain ⟨h1, _, h3⟩ := h
  rw [(Qd4 g.args 200 20 (by omega) (by omega)).1, Bool.and_eq_true, decide_eq_true_eq] at h3
  exact ⟨h1, h3.1, by omega⟩
theorem QkJ (l : List UInt8) : (rP l).1.nds ≤ 1000000 := by
  unfold rP
  split
  · exact (by decide : zT.nds ≤ 1000000)
  · simp only
    split
    · exact (by decide : zT.nds ≤ 1000000)
    · split
      · rename_i h
        have := (QfU h).2.1
        simp only; omega
      · exact (by decide : zT.nds ≤ 1000000)
theorem Qh8 (g : G) (e : Int) : ndsL (rFin g e).1.args ≤ 1000000 := by
  unfold rFin
  split
  · exact (by decide : ndsL zG.args ≤ 1000000)
  · split
    · rename_i h
      obtain ⟨_, h2, h3⟩ := Qjd h
      simp only
      rw [QdO _ h2]; omega
    · exact (by decide : ndsL zG.args ≤ 1000000)
theorem Qj6 (l : List UInt8) : ndsL (rPA l).1.args ≤ 1000000 := by
  unfold rPA
  split
  · exact (by decide : ndsL zG.args ≤ 1000000)
  · split
    · exact (by decide : ndsL zG.args ≤ 1000000)
    · split
      · exact Qh8 _ _
      · exact (by decide : ndsL zG.args ≤ 1000000)
theorem Qjn (s : ByteArray) (hm : s.size ≤ 9223372036854775807) (h : AH) (hT : Tabs h) : Xf Tryz.prog 5 [.v (.string s)] h fun o h' => o = .ret (.b true) ∧ h' = h := by
  have hsl := fun b => Yf Tryz.prog 9 3 (by kernel_rfl) b
  have ce := fun L => QfE (h ++ L) (hT.app L)
  by_cases hl : 3000 < s.size
  · have z1 : ((s.size : Nat) : Int) > 3000 := by omega
    have ce0 := ce []
    simp only [Qnl] at ce0
    refine Qe Tryz.func5 rfl Tryz.call5 Tryz.ntmps5 (congrArg Array.toList Tryz.results5) (by simp) ?_
    repeat (first | ((first | (with_reducible (first | refine Qa fun K E hK hE => ?_ | refine FunW.ret (FunW.call ce0) ?_))); simp -implicitDefEqProofs only [Qd, Qb, Qf, OpW, QQ, aop, undef, AS.ev, Qc, Qn, Qt, Qg, Qv, QmZ, ↓reduceIte, Nat.reduceLT, Nat.reduceEqDiff, aBin, aLen, QmU, Qnb, Xr, goInt, Qno, hsl, z1]) | (with_reducible (first | refine Qi fun K hK => ?_ | refine Qm ?_ | refine QA ?_)) | ((with_reducible refine hK _ ?_); clear hK) | (refine Qk rfl ?_; simp only [↓reduceIte]))
    simp -implicitDefEqProofs only [Qg, ↓reduceIte, QmY, QN, Qp, Qw, Qm2]
    exact .inr ⟨rfl, rfl⟩
  · have z1 : ¬ ((s.size : Nat) : Int) > 3000 := by omega
    have hSz : s.data.toList.length = s.size := by simp
    have c1 : Xf Tryz.prog 18 [.v (.string s)] h fun o h' => o = .ret (.tup [(rP s.data.toList).1.av, .i (rP s.data.toList).2]) ∧ h' = h := by
      have := Qbl s.data.toList (by omega) h hT
      rw [Qe7, ← Qmi, Qhz] at this
      exact this
    have c2 := Qfo s hm
    have c3 : ∀ L, Xf Tryz.prog 20 [.v (.string s)] (h ++ L) fun o h' => o = .ret (.tup [(rPA s.data.toList).1.atom, .i (rPA s.data.toList).2]) ∧ h' = h ++ L := fun L => by
      have := Qdl s.data.toList (by omega) (h ++ L) (hT.app L)
      rw [Qfe, ← Ql4, Qhz] at this
      exact this
    have c4 := Qef s hm
    have s1 := Qgd (rP s.data.toList).1 (QkJ _)
    have s2 := QeK (rPA s.data.toList).1 (Qj6 _)
    generalize rP s.data.toList = X at *
    generalize rPA s.data.toList = Y at *
    obtain ⟨X1, X2⟩ := X
    obtain ⟨Y1, Y2⟩ := Y
    simp only at c1 c2 c3 c4 s1 s2
    refine Qe Tryz.func5 rfl Tryz.call5 Tryz.ntmps5 (congrArg Array.toList Tryz.results5) (by simp) ?_
    iterate 21 (try (first | ((first | (with_reducible (first | refine Qa fun K E hK hE => ?_ | refine Qz c2 ?_ | refine Qz c4 ?_ | refine FunW.ret (FunW.call c1) ?_ | refine FunW.ret (FunW.call (c3 _)) ?_))); simp -implicitDefEqProofs only [Qd, Qb, Qf, OpW, QQ, aop, undef, AS.ev, Qc, QL, Qn, Qt, Qg, Qv, QmZ, AV.Qmr, Qo, QB, Qnc, Qnd, Qs, Qu, QE, QI, Qne, ↓reduceIte, Qm5, Qm6, Nat.reduceAdd, Nat.reduceLT, Nat.reduceEqDiff, Qm4, Qnq, QW, QM, aBin, Xs, aLen, Q0, hget, Ym, hset, hlen, happ, QmS, QmT, Qnm, Qnn, QmU, Qm7, Qnb, Qnk, Qnj, Xr, goInt, Qnp, T.Qmp, T.Qmq, ti24, zi24, ti34, zi34, hsl, z1, T.Qmp, T.Qmq, Xy, Yc]) | (with_reducible (first | refine Qi fun K hK => ?_ | refine QD ?_ | refine Qj ?_)) | ((with_reducible refine hK _ ?_); clear hK) | (refine Qk rfl ?_; simp only [↓reduceIte, QmW])))
    (with_reducible refine Qa fun K E hK hE => ?_)
    (try simp only [Qnt]); refine Qy 4 (fun K1 hK1 => ?_); simp -implicitDefEqProofs only [Qb, Qf, OpW, aop, AS.ev, Qc, Qg, ↓reduceIte, Qm5, Qm6, Nat.reduceAdd, Nat.reduceLT, Nat.reduceEqDiff, Qm4, Qnq, QG, QH, Q0, hget, QmS, QmT, QmU, Qm7, Qnb, Qm3, Qna, T.Qmp, T.Qmq, ti24, T.Qmp, T.Qmq]; (repeat ((((with_reducible refine Qz s1 ?_)); simp -implicitDefEqProofs only [Qd, Qb, Qf, OpW, QQ, aop, AS.ev, Qc, Qg, ↓reduceIte, Nat.reduceLT]))); refine hK1 _ ?_; clear hK1
    (try simp only [Qm1, Qm9]); refine Qy 5 (fun K1 hK1 => ?_); simp -implicitDefEqProofs only [Qd, Qb, Qf, OpW, aop, AS.ev, Qc, Qg, ↓reduceIte, Nat.reduceLT, Nat.reduceEqDiff, aBin, QmS, QmT, QmU, QmX, QmV, Qm3, Qna, QR, Qm0]; refine hK1 _ ?_; clear hK1
    (try simp only [Qm1, Qm9]); refine Qy 5 (fun K1 hK1 => ?_); simp -implicitDefEqProofs only [Qb, Qf, OpW, aop, AS.ev, Qc, Qg, ↓reduceIte, Qm5, Qm6, Nat.reduceAdd, Nat.reduceLT, Nat.reduceEqDiff, Qm4, Qnq, QG, QH, hget, QmS, QmT, QmU, QmX, QmV, Qm7, Qnb, Qm3, Qna, Qm0, ti34, Xy, Yc]; (repeat ((((with_reducible refine Qz s2 ?_)); simp -implicitDefEqProofs only [Qd, Qb, Qf, OpW, QQ, aop, AS.ev, Qc, Qg, ↓reduceIte, Nat.reduceLT, Nat.reduceEqDiff]))); refine hK1 _ ?_; clear hK1
    (try simp only [Qm1, Qm9]); refine Qy 5 (fun K1 hK1 => ?_); simp -implicitDefEqProofs only [Qd, Qb, Qf, OpW, aop, AS.ev, Qc, Qg, ↓reduceIte, Nat.reduceLT, Nat.reduceEqDiff, aBin, QmS, QmT, QmU, QmX, QmV, Qm3, Qna, QR, Qm0]; refine hK1 _ ?_; clear hK1
    (try simp only [Qm1, Qm9])
    simp -implicitDefEqProofs only [Qb, Qf, OpW, AS.ev, Qg, ↓reduceIte, QmS, QmT, QmX, QmV, Qnb, Qm0]
    repeat (first | (((with_reducible refine FunW.ret (FunW.call (ce _)) ?_)); simp -implicitDefEqProofs only [Qd, Qb, Qf, OpW, QQ, aop, AS.ev, Qc, Qg, ↓reduceIte, Nat.reduceLT, Nat.reduceEqDiff]) | (with_reducible refine Qm ?_) | ((with_reducible refine hK _ ?_); clear hK))
    simp only [QN, Qp, Qw, upd, ↓reduceIte, QmY, Qm2]; first | refine Qh (htake _ _) (.keep (.v _)) ⟨rfl, rfl⟩ | refine Qh List.take_length (.keep (.v _)) ⟨rfl, rfl⟩
end Go.Proofs.YtehjodmnajgdgaaGreatDoor.Ab
namespace Go.Proofs.YtehjodmnajgdgaaGreatDoor.Ab
open Go.Proofs
theorem Ql9 {n : Nat} (h : n ≤ maxLen) : n ≤ 9223372036854775807 := by simp only [maxLen] at h; omega
theorem open_string {H : Type} {enc : TypeId × Value → H} {P : Program} {W : World} {r : Reach} {b0 : Nat} {t : TypeId} {v : Value} {d : DataW H} {ps : List MemPlace} (ht : P.underlying t = some .string) (hv : Value.okWide P W r b0 t v) (hd : DataW.Trod enc P W 0 (fun _ => true) true t v d ps) : ∃ s : ByteArray, v = .string s ∧ s.size ≤ maxLen := by
  obtain ⟨fuel, hf⟩ := hd
  have hc : v.cells.toList = [v] := by
    cases v with
    | agg cs => simp [Value.okWide, ht, Cell.okWide, Cell.ok] at hv
    | _ => rfl
  rw [hc] at hf
  obtain ⟨s, h1, _, h2⟩ := DataW.trod_string ht hf
  cases h1
  exact ⟨s, rfl, h2⟩
end Go.Proofs.YtehjodmnajgdgaaGreatDoor.Ab
