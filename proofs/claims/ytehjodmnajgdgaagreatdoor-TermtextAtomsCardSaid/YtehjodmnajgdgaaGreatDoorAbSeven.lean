/-
  An abstract program logic, contracts of functions, and laws of terms and rules (part 7).
-/
import Derived.Test.YtehjodmnajgdgaaGreatDoorAbSix
set_option linter.unusedVariables false
set_option linter.unusedSimpArgs false
set_option maxHeartbeats 4000000
set_option maxRecDepth 4000
namespace Go.Proofs.YtehjodmnajgdgaaGreatDoor.Ab
open Go.Proofs
abbrev spcB : ByteArray := { data := #[32] }
theorem Qk7 (l : List UInt8) : spcB ++ mkB l = mkB (32 :: l) := by
  refine QaU ?_
  rw [Z1, Xk, Z1]; rfl
theorem Qem {l : List UInt8} {b : ByteArray} {g : G} (e : mkB l = b) (hp : QaQ false l = .ok g []) (hm : l.length ≤ 9223372036854775807) {h : AH} (hT : Tabs h) (L : AH) :
    Xd Tryz.prog 20 [.v (.string b)] (h ++ L) fun o h' => o = .ret (.tup [g.atom, .i 0]) ∧ h' = h ++ L := by
  have := QeP l hm (h ++ L) (hT.app L)
  rw [hp, e] at this
  exact this
theorem Qlm (g : G) (hop : g.op = 0) (ho : g.ok) (h : AH) (hT : Tabs h) : Xd Tryz.prog 7 [g.atom] h fun o h' => o = .ret (.b true) ∧ h' = h := by
  have cg : Pure Tryz.prog 26 [.sl 2 [g.atom] none, .i 500] _ := Qex [g] 500 (by intro x hx; rw [List.mem_singleton.1 hx]; exact ho) (by simp) (by decide) (by decide)
  have ce := fun L => XJ (h ++ L) (hT.app L)
  by_cases hw : YT [g] 500 < 0
  · rw [decide_eq_true hw] at cg
    refine Qe Tryz.func7 rfl Tryz.call7 Tryz.ntmps7 (congrArg Array.toList Tryz.results7) (by simp) ?_
    repeat (first | ((first | (with_reducible (first | refine Qa fun K E hK hE => ?_ | refine Qo cg ?_ | refine FunW.ret (FunW.call (ce _)) ?_))); simp -implicitDefEqProofs only [Qd, Qb, Qg, OpW, QO, aop, undef, AS.ev, Qc, Qn, Qr, Qi, Qw, Qns, AV.QmP, QB, QnF, QnG, Qt, QM, QC, QnH, ↓reduceIte, Qny, Qnz, Nat.reduceAdd, Nat.reduceLT, Nat.reduceLeDiff, Nat.reduceEqDiff, Nat.reduceMul, Qnx, QnT, QK, QL, QP, QT, Qnl, Qnn, QnA, QnE, Qnt, rng1, Q2, Nat.reducePow, ti34, zi34, ei48, Xm, XP]) | (with_reducible (first | refine Qh fun K hK => ?_ | refine Ql ?_ | refine Qy ?_)) | ((with_reducible refine hK _ ?_); clear hK) | (refine Qk rfl ?_; simp only [↓reduceIte]))
    simp only [QI, Qm, Qu, upd, ↓reduceIte, Qnr, Qnv]; first | refine Qf (htake _ _) (.keep (.v _)) ⟨rfl, rfl⟩ | refine Qf List.take_length (.keep (.v _)) ⟨rfl, rfl⟩
  · rw [decide_eq_false hw] at cg
    have hn := QeN [g] 500 (by omega)
    have hn' : ndsL g.args ≤ 1000000 := by simp only [ndsG] at hn; omega
    have hl := XZ g.args
    have c1 := fun L => Qav g (by omega) (h ++ L) (hT.app L).1
    have cr := Zf g hn' ho
    cases hr : Q3 g with
    | false =>
      rw [hr] at cr
      rw [txtA, if_neg (by rw [hr]; decide)] at c1
      refine Qe Tryz.func7 rfl Tryz.call7 Tryz.ntmps7 (congrArg Array.toList Tryz.results7) (by simp) ?_
      repeat (first | ((first | (with_reducible (first | refine Qa fun K E hK hE => ?_ | refine Qo cg ?_ | refine Qo cr ?_ | refine FunW.ret (FunW.call (c1 _)) ?_ | refine FunW.ret (FunW.call (ce _)) ?_))); simp -implicitDefEqProofs only [Qd, Qb, Qg, OpW, QO, aop, undef, AS.ev, Qc, Qn, Qr, QG, Qi, Qw, Qns, AV.QmP, QB, QnF, QnG, Qt, QM, QC, QnH, QnJ, ↓reduceIte, Qny, Qnz, Nat.reduceAdd, Nat.reduceLT, Nat.reduceLeDiff, Nat.reduceEqDiff, Nat.reduceMul, Qnx, QnT, QK, QL, aBin, QP, QT, Qnl, Qnm, Qnn, Qnq, Qno, QnA, QnE, Xa, QY, Qnt, rng1, Q2, Nat.reducePow, ti34, zi34, ei48, Xm, XP]) | (with_reducible (first | refine Qh fun K hK => ?_ | refine Ql ?_ | refine QA ?_ | refine Qj ?_ | refine Qy ?_)) | ((with_reducible refine hK _ ?_); clear hK) | (refine Qk rfl ?_; simp only [↓reduceIte, Qnp]))
      simp only [QI, Qm, Qu, upd, ↓reduceIte, Qnr, Qnv]; first | refine Qf (htake _ _) (.keep (.v _)) ⟨rfl, rfl⟩ | refine Qf List.take_length (.keep (.v _)) ⟨rfl, rfl⟩
    | true =>
      rw [hr] at cr
      obtain ⟨t1, t2⟩ := Qfk false g hop hr
      have hz := (Qf3 hr).2.2.2
      have hsz : (txtA g).size ≤ 15000 := by rw [txtA, if_pos hr]; exact hz
      have hsL : (txtA g).data.toList.length = (txtA g).size := by simp
      generalize hx : txtA g = tx at *
      have p1 := Qem (QdJ tx) t1 (by omega) hT
      have cl : Pure Tryz.prog 25 [.v (.string tx)] (.v (.string (mkB (Q6 tx.data.toList)))) := by
        have := Qfl tx.data.toList (by omega)
        rw [QdJ tx] at this
        exact this
      have p2 := Qem (Qk7 (Q6 tx.data.toList)).symm (hx ▸ Qgz false g hop hr) (by simp only [Qny]; omega) hT
      have cs := Qf4 g hn'
      have a1 := fun xo yo => Xv Tryz.prog 9 xo yo spcB (mkB (Q6 tx.data.toList)) (by rw [Xr]; have : spcB.size = 1 := rfl; omega)
      refine Qe Tryz.func7 rfl Tryz.call7 Tryz.ntmps7 (congrArg Array.toList Tryz.results7) (by simp) ?_
      iterate 28 (try (first | ((first | (with_reducible (first | refine Qa fun K E hK hE => ?_ | refine Qo cg ?_ | refine Qo cr ?_ | refine Qo cl ?_ | refine FunW.ret (FunW.call (c1 _)) ?_ | refine FunW.ret (FunW.call (p1 _)) ?_ | refine FunW.ret (FunW.call (p2 _)) ?_))); simp -implicitDefEqProofs only [Qd, Qb, Qg, OpW, QO, aop, undef, AS.ev, Qc, QV, Qn, Qr, QG, Qi, Qw, Qns, AV.QmP, QB, QJ, QnF, QnG, Qt, QM, QC, QnH, QnI, ↓reduceIte, Qny, Qnz, Nat.reduceAdd, Nat.reduceLT, Nat.reduceLeDiff, Nat.reduceEqDiff, Nat.reduceMul, Qnx, QnT, QK, QL, Q5, QW, aBin, XB, QP, QT, hget, hset, hlen, happ, Qnl, Qnm, QnP, QnQ, Qnn, QnA, QnE, QnN, QnM, Xa, Qnt, rng1, Q2, Nat.reducePow, ti34, zi34, ei48, Xm, XP, a1]) | (with_reducible (first | refine Qh fun K hK => ?_ | refine QA ?_ | refine Qj ?_)) | ((with_reducible refine hK _ ?_); clear hK) | (refine Qk rfl ?_; simp only [↓reduceIte, Qnp])))
      (with_reducible refine Qa fun K E hK hE => ?_)
      (try simp only [QnW]); refine Qz 6 (fun K1 hK1 => ?_); simp -implicitDefEqProofs only [Qd, Qb, Qg, OpW, aop, AS.ev, Qc, Qn, Qi, ↓reduceIte, Nat.reduceLT, Nat.reduceEqDiff, aBin, Qnl, Qnm, Qnn, Qnq, Qno, Qnw, QnD, QS, Qnt]; refine hK1 _ ?_; clear hK1
      (try simp only [Qnu, QnC]); refine Qz 5 (fun K1 hK1 => ?_); simp -implicitDefEqProofs only [Qb, Qg, OpW, aop, AS.ev, Qc, Qi, ↓reduceIte, Qny, Qnz, Nat.reduceAdd, Nat.reduceLT, Nat.reduceEqDiff, Qnx, QnT, QK, QL, QT, hget, Qnl, Qnm, Qnn, Qnq, Qno, QnA, QnE, Qnw, QnD, Qnt, ti34, Xm, XP]; (repeat ((((with_reducible refine Qo cs ?_)); simp -implicitDefEqProofs only [Qd, Qb, Qg, OpW, QO, aop, AS.ev, Qc, Qi, ↓reduceIte, Nat.reduceLT, Nat.reduceEqDiff]))); refine hK1 _ ?_; clear hK1
      (try simp only [Qnu, QnC]); refine Qz 5 (fun K1 hK1 => ?_); simp -implicitDefEqProofs only [Qb, Qg, OpW, aop, AS.ev, Qc, Qi, ↓reduceIte, Qny, Qnz, Nat.reduceAdd, Nat.reduceLT, Nat.reduceEqDiff, Qnx, QnT, QK, QL, QT, hget, Qnl, Qnm, Qnn, Qnq, Qno, QnA, QnE, Qnw, QnD, Qnt, ti34, Xm, XP]; (repeat ((((with_reducible refine Qo cs ?_)); simp -implicitDefEqProofs only [Qd, Qb, Qg, OpW, QO, aop, AS.ev, Qc, Qi, ↓reduceIte, Nat.reduceLT, Nat.reduceEqDiff]))); refine hK1 _ ?_; clear hK1
      (try simp only [Qnu, QnC])
      simp -implicitDefEqProofs only [Qb, Qg, OpW, aop, AS.ev, Qc, Qi, ↓reduceIte, Nat.reduceLT, Qnl, Qnm, Qnq, Qno, QnE, Qnt]
      repeat (first | (((with_reducible refine FunW.ret (FunW.call (ce _)) ?_)); simp -implicitDefEqProofs only [Qd, Qb, Qg, OpW, QO, aop, AS.ev, Qc, Qi, ↓reduceIte, Nat.reduceLT, Nat.reduceEqDiff]) | (with_reducible refine Ql ?_) | ((with_reducible refine hK _ ?_); clear hK))
      simp only [QI, Qm, Qu, upd, ↓reduceIte, Qnr, Qnv]; first | refine Qf (htake _ _) (.keep (.v _)) ⟨rfl, rfl⟩ | refine Qf List.take_length (.keep (.v _)) ⟨rfl, rfl⟩
end Go.Proofs.YtehjodmnajgdgaaGreatDoor.Ab
