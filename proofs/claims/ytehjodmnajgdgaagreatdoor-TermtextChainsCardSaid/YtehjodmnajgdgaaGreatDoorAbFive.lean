/-
  An abstract program logic, contracts of functions, and laws of terms and rules (part 5).
-/
import Derived.Test.YtehjodmnajgdgaaGreatDoorAbFour
import Derived.Test.YtehjodmnajgdgaaGreatDoorAbThree
import Derived.Lib.ItoaNum
import Derived.Test.YtehjodmnajgdgaaGreatDoorAbTwo
import Derived.Lib.AtoiAllCases
set_option linter.unusedVariables false
set_option linter.unusedSimpArgs false
set_option maxHeartbeats 4000000
set_option maxRecDepth 4000
namespace Go.Proofs.YtehjodmnajgdgaaGreatDoor.Ab
open Go.Proofs
theorem Qgr {l : List T} (h : (runL l 200 20).1 = true) : X7 l = true := by
  rw [(Qao l 200 20 (by omega) (by omega)).1, Bool.and_eq_true] at h; exact h.1
theorem Qa3 {g : G} (h : Q3 g = true) : g.name.size ≤ 1000 ∧ X7 g.args = true := by
  simp only [Q3, Bool.and_eq_true] at h
  have := Y8 h.1
  exact ⟨by omega, Qgr h.2.2⟩
theorem Qdq (g : G) (hn : ndsL g.args ≤ 1000000) (ho : g.ok) : Pure Tryz.prog 17 [g.atom] (.v (.string (txtA g))) := by
  intro h
  have c1 := Zf g hn ho
  cases hr : Q3 g with
  | false =>
    rw [hr] at c1
    rw [txtA, hr, if_neg (by simp)]
    refine Qe Tryz.func17 rfl Tryz.call17 Tryz.ntmps17 (congrArg Array.toList Tryz.results17) (by simp) ?_
    repeat (first | ((first | (with_reducible (first | refine Qa fun K E hK hE => ?_ | refine Qo c1 ?_))); simp -implicitDefEqProofs only [Qd, Qb, Qg, OpW, QO, aop, undef, AS.ev, Qc, QG, Qi, Qw, Qns, AV.QmP, QnF, QnG, Qt, QC, QnH, QnJ, ↓reduceIte, Qny, Qnz, Nat.reduceAdd, Nat.reduceLT, Nat.reduceEqDiff, Qnx, QnT, QK, QL, QT, Qnl, Qnn, QnA, QnE, Xa, ti34, Xm, XP]) | (with_reducible (first | refine Qh fun K hK => ?_ | refine Ql ?_ | refine Qy ?_)) | ((with_reducible refine hK _ ?_); clear hK) | (refine Qk rfl ?_; simp only [↓reduceIte]))
    simp only [QI, Qm, Qu, upd, ↓reduceIte, Qnr, Qnv]; first | refine Qf (htake _ _) (.keep (.v _)) ⟨rfl, rfl⟩ | refine Qf List.take_length (.keep (.v _)) ⟨rfl, rfl⟩
  | true =>
    rw [hr] at c1
    obtain ⟨hs, hf⟩ := Qa3 hr
    have c2 := Qb7 g.name hs g.args hn hf ho.2.2
    rw [txtA, hr, if_pos rfl]
    refine Qe Tryz.func17 rfl Tryz.call17 Tryz.ntmps17 (congrArg Array.toList Tryz.results17) (by simp) ?_
    repeat (first | ((first | (with_reducible (first | refine Qa fun K E hK hE => ?_ | refine Qo c1 ?_ | refine Qo c2 ?_))); simp -implicitDefEqProofs only [Qd, Qb, Qg, OpW, QO, aop, undef, AS.ev, Qc, QG, Qi, Qw, Qns, AV.QmP, QnF, QnG, Qt, QC, QnH, QnI, ↓reduceIte, Qny, Qnz, Nat.reduceAdd, Nat.reduceLT, Nat.reduceEqDiff, Qnx, QnK, QnT, Qp, QK, QL, QT, Qnl, Qnm, Qnn, QnA, QnE, Xa, ti9, ti22, ti34, QbF, Qc1, Xm, XP]) | (with_reducible (first | refine Qh fun K hK => ?_ | refine Ql ?_ | refine QA ?_ | refine Qj ?_)) | ((with_reducible refine hK _ ?_); clear hK) | (refine Qk rfl ?_; simp only [↓reduceIte, Qnp]))
    simp only [QI, Qm, Qu, upd, ↓reduceIte, Qnr, Qnv]; first | refine Qf (htake _ _) (.keep (.v _)) ⟨rfl, rfl⟩ | refine Qf List.take_length (.keep (.v _)) ⟨rfl, rfl⟩
theorem QhA (op : Int) (h1 : 3 ≤ op) (h2 : op ≤ 10) : Pure Tryz.prog 44 [.i op] (.v (.string (Qdv op))) := by
  intro h
  have : op = 3 ∨ op = 4 ∨ op = 5 ∨ op = 6 ∨ op = 7 ∨ op = 8 ∨ op = 9 ∨ op = 10 := by omega
  rcases this with rfl | rfl | rfl | rfl | rfl | rfl | rfl | rfl
  · have hw : IntKind.i64.wrap ((3 : Int) - 3) = ((0 : Nat) : Int) := by decide
    have n08 : (0 : Int) < ((8 : Nat) : Int) := by decide
    refine Qe Tryz.func44 rfl Tryz.call44 Tryz.ntmps44 (congrArg Array.toList Tryz.results44) (by simp) ?_
    repeat (first | (((with_reducible refine Qa fun K E hK hE => ?_)); simp -implicitDefEqProofs only [Qd, Qb, Qg, OpW, aop, undef, AS.ev, Qc, Qn, QG, Qi, Qw, Qns, AV.QmP, QU, QnF, QnG, Qt, QnH, ↓reduceIte, Qny, Qnz, Nat.reduceAdd, Nat.reduceLT, Nat.reduceLeDiff, Nat.reduceEqDiff, Nat.reduceMul, Qnx, QnT, QK, QL, QZ, aBin, QP, Qnl, Qnn, QnA, QnE, XY, Qnt, Int.toNat_zero, Qn7, rng8, Q2, Nat.reducePow, ti9, zi9, ei52, Qn8, hw, n08]) | (with_reducible refine Ql ?_) | ((with_reducible refine hK _ ?_); clear hK))
    simp only [QI, Qm, Qu, upd, ↓reduceIte, Qnr, Qnv]; first | refine Qf (htake _ _) (.keep (.v _)) ⟨rfl, rfl⟩ | refine Qf List.take_length (.keep (.v _)) ⟨rfl, rfl⟩
  · have hw : IntKind.i64.wrap ((4 : Int) - 3) = ((1 : Nat) : Int) := by decide
    have n08 : (0 : Int) < ((8 : Nat) : Int) := by decide
    refine Qe Tryz.func44 rfl Tryz.call44 Tryz.ntmps44 (congrArg Array.toList Tryz.results44) (by simp) ?_
    repeat (first | (((with_reducible refine Qa fun K E hK hE => ?_)); simp -implicitDefEqProofs only [Qd, Qb, Qg, OpW, aop, undef, AS.ev, Qc, Qn, QG, Qi, Qw, Qns, AV.QmP, QU, QnF, QnG, Qt, QnH, ↓reduceIte, Qny, Qnz, Nat.reduceAdd, Nat.reduceLT, Nat.reduceLeDiff, Nat.reduceEqDiff, Nat.reduceMul, Qnx, QnT, QK, QL, QZ, aBin, QP, Qnl, Qnm, Qnn, QnA, QnE, XY, Qnt, QnY, QnX, Qn9, rng8, Q2, Nat.reducePow, ti9, zi9, ei52, hw]) | (with_reducible refine Ql ?_) | ((with_reducible refine hK _ ?_); clear hK))
    simp only [QI, Qm, Qu, upd, ↓reduceIte, Qnr, Qnv]; first | refine Qf (htake _ _) (.keep (.v _)) ⟨rfl, rfl⟩ | refine Qf List.take_length (.keep (.v _)) ⟨rfl, rfl⟩
  · have hw : IntKind.i64.wrap ((5 : Int) - 3) = ((2 : Nat) : Int) := by decide
    have n08 : (0 : Int) < ((8 : Nat) : Int) := by decide
    refine Qe Tryz.func44 rfl Tryz.call44 Tryz.ntmps44 (congrArg Array.toList Tryz.results44) (by simp) ?_
    repeat (first | (((with_reducible refine Qa fun K E hK hE => ?_)); simp -implicitDefEqProofs only [Qd, Qb, Qg, OpW, aop, undef, AS.ev, Qc, Qn, QG, Qi, Qw, Qns, AV.QmP, QU, QnF, QnG, Qt, QnH, ↓reduceIte, Qny, Qnz, Nat.reduceAdd, Nat.reduceLT, Nat.reduceLeDiff, Nat.reduceEqDiff, Nat.reduceMul, Qnx, QnT, QK, QL, QZ, aBin, QP, Qnl, Qnm, Qnn, QnA, QnE, XY, Qnt, QnY, QnX, Qn9, rng8, Q2, Nat.reducePow, ti9, zi9, ei52, hw]) | (with_reducible refine Ql ?_) | ((with_reducible refine hK _ ?_); clear hK))
    simp only [QI, Qm, Qu, upd, ↓reduceIte, Qnr, Qnv]; first | refine Qf (htake _ _) (.keep (.v _)) ⟨rfl, rfl⟩ | refine Qf List.take_length (.keep (.v _)) ⟨rfl, rfl⟩
  · have hw : IntKind.i64.wrap ((6 : Int) - 3) = ((3 : Nat) : Int) := by decide
    have n08 : (0 : Int) < ((8 : Nat) : Int) := by decide
    refine Qe Tryz.func44 rfl Tryz.call44 Tryz.ntmps44 (congrArg Array.toList Tryz.results44) (by simp) ?_
    repeat (first | (((with_reducible refine Qa fun K E hK hE => ?_)); simp -implicitDefEqProofs only [Qd, Qb, Qg, OpW, aop, undef, AS.ev, Qc, Qn, QG, Qi, Qw, Qns, AV.QmP, QU, QnF, QnG, Qt, QnH, ↓reduceIte, Qny, Qnz, Nat.reduceAdd, Nat.reduceLT, Nat.reduceLeDiff, Nat.reduceEqDiff, Nat.reduceMul, Qnx, QnT, QK, QL, QZ, aBin, QP, Qnl, Qnm, Qnn, QnA, QnE, XY, Qnt, QnY, QnX, Qn9, rng8, Q2, Nat.reducePow, ti9, zi9, ei52, hw]) | (with_reducible refine Ql ?_) | ((with_reducible refine hK _ ?_); clear hK))
    simp only [QI, Qm, Qu, upd, ↓reduceIte, Qnr, Qnv]; first | refine Qf (htake _ _) (.keep (.v _)) ⟨rfl, rfl⟩ | refine Qf List.take_length (.keep (.v _)) ⟨rfl, rfl⟩
  · have hw : IntKind.i64.wrap ((7 : Int) - 3) = ((4 : Nat) : Int) := by decide
    have n08 : (0 : Int) < ((8 : Nat) : Int) := by decide
    refine Qe Tryz.func44 rfl Tryz.call44 Tryz.ntmps44 (congrArg Array.toList Tryz.results44) (by simp) ?_
    repeat (first | (((with_reducible refine Qa fun K E hK hE => ?_)); simp -implicitDefEqProofs only [Qd, Qb, Qg, OpW, aop, undef, AS.ev, Qc, Qn, QG, Qi, Qw, Qns, AV.QmP, QU, QnF, QnG, Qt, QnH, ↓reduceIte, Qny, Qnz, Nat.reduceAdd, Nat.reduceLT, Nat.reduceLeDiff, Nat.reduceEqDiff, Nat.reduceMul, Qnx, QnT, QK, QL, QZ, aBin, QP, Qnl, Qnm, Qnn, QnA, QnE, XY, Qnt, QnY, QnX, Qn9, rng8, Q2, Nat.reducePow, ti9, zi9, ei52, hw]) | (with_reducible refine Ql ?_) | ((with_reducible refine hK _ ?_); clear hK))
    simp only [QI, Qm, Qu, upd, ↓reduceIte, Qnr, Qnv]; first | refine Qf (htake _ _) (.keep (.v _)) ⟨rfl, rfl⟩ | refine Qf List.take_length (.keep (.v _)) ⟨rfl, rfl⟩
  · have hw : IntKind.i64.wrap ((8 : Int) - 3) = ((5 : Nat) : Int) := by decide
    have n08 : (0 : Int) < ((8 : Nat) : Int) := by decide
    refine Qe Tryz.func44 rfl Tryz.call44 Tryz.ntmps44 (congrArg Array.toList Tryz.results44) (by simp) ?_
    repeat (first | (((with_reducible refine Qa fun K E hK hE => ?_)); simp -implicitDefEqProofs only [Qd, Qb, Qg, OpW, aop, undef, AS.ev, Qc, Qn, QG, Qi, Qw, Qns, AV.QmP, QU, QnF, QnG, Qt, QnH, ↓reduceIte, Qny, Qnz, Nat.reduceAdd, Nat.reduceLT, Nat.reduceLeDiff, Nat.reduceEqDiff, Nat.reduceMul, Qnx, QnT, QK, QL, QZ, aBin, QP, Qnl, Qnm, Qnn, QnA, QnE, XY, Qnt, QnY, QnX, Qn9, rng8, Q2, Nat.reducePow, ti9, zi9, ei52, hw]) | (with_reducible refine Ql ?_) | ((with_reducible refine hK _ ?_); clear hK))
    simp only [QI, Qm, Qu, upd, ↓reduceIte, Qnr, Qnv]; first | refine Qf (htake _ _) (.keep (.v _)) ⟨rfl, rfl⟩ | refine Qf List.take_length (.keep (.v _)) ⟨rfl, rfl⟩
  · have hw : IntKind.i64.wrap ((9 : Int) - 3) = ((6 : Nat) : Int) := by decide
    have n08 : (0 : Int) < ((8 : Nat) : Int) := by decide
    refine Qe Tryz.func44 rfl Tryz.call44 Tryz.ntmps44 (congrArg Array.toList Tryz.results44) (by simp) ?_
    repeat (first | (((with_reducible refine Qa fun K E hK hE => ?_)); simp -implicitDefEqProofs only [Qd, Qb, Qg, OpW, aop, undef, AS.ev, Qc, Qn, QG, Qi, Qw, Qns, AV.QmP, QU, QnF, QnG, Qt, QnH, ↓reduceIte, Qny, Qnz, Nat.reduceAdd, Nat.reduceLT, Nat.reduceLeDiff, Nat.reduceEqDiff, Nat.reduceMul, Qnx, QnT, QK, QL, QZ, aBin, QP, Qnl, Qnm, Qnn, QnA, QnE, XY, Qnt, QnY, QnX, Qn9, rng8, Q2, Nat.reducePow, ti9, zi9, ei52, hw]) | (with_reducible refine Ql ?_) | ((with_reducible refine hK _ ?_); clear hK))
    simp only [QI, Qm, Qu, upd, ↓reduceIte, Qnr, Qnv]; first | refine Qf (htake _ _) (.keep (.v _)) ⟨rfl, rfl⟩ | refine Qf List.take_length (.keep (.v _)) ⟨rfl, rfl⟩
  · have hw : IntKind.i64.wrap ((10 : Int) - 3) = ((7 : Nat) : Int) := by decide
    have n08 : (0 : Int) < ((8 : Nat) : Int) := by decide
    refine Qe Tryz.func44 rfl Tryz.call44 Tryz.ntmps44 (congrArg Array.toList Tryz.results44) (by simp) ?_
    repeat (first | (((with_reducible refine Qa fun K E hK hE => ?_)); simp -implicitDefEqProofs only [Qd, Qb, Qg, OpW, aop, undef, AS.ev, Qc, Qn, QG, Qi, Qw, Qns, AV.QmP, QU, QnF, QnG, Qt, QnH, ↓reduceIte, Qny, Qnz, Nat.reduceAdd, Nat.reduceLT, Nat.reduceLeDiff, Nat.reduceEqDiff, Nat.reduceMul, Qnx, QnT, QK, QL, QZ, aBin, QP, Qnl, Qnm, Qnn, QnA, QnE, XY, Qnt, QnY, QnX, Qn9, rng8, Q2, Nat.reducePow, ti9, zi9, ei52, hw]) | (with_reducible refine Ql ?_) | ((with_reducible refine hK _ ?_); clear hK))
    simp only [QI, Qm, Qu, upd, ↓reduceIte, Qnr, Qnv]; first | refine Qf (htake _ _) (.keep (.v _)) ⟨rfl, rfl⟩ | refine Qf List.take_length (.keep (.v _)) ⟨rfl, rfl⟩
theorem Qdp (g : G) (hn : ndsL g.args ≤ 1000000) (ho : g.ok) : Pure Tryz.prog 15 [g.goal] (.v (.string (txtG g))) := by
  intro h
  have c1 := QcH g hn ho
  cases hr : Xn g with
  | false =>
    rw [hr] at c1
    rw [txtG, hr, if_neg (by simp)]
    refine Qe Tryz.func15 rfl Tryz.call15 Tryz.ntmps15 (congrArg Array.toList Tryz.results15) (by simp) ?_
    repeat (first | ((first | (with_reducible (first | refine Qa fun K E hK hE => ?_ | refine Qo c1 ?_))); simp -implicitDefEqProofs only [Qd, Qb, Qg, OpW, QO, aop, undef, AS.ev, Qc, QG, Qi, Qw, Qns, AV.QmP, QnF, QnG, Qv, Qt, QC, QnH, QnJ, ↓reduceIte, Qny, Qnz, Nat.reduceAdd, Nat.reduceLT, Nat.reduceEqDiff, Qnx, QnT, QK, QL, QT, Qnl, Qnn, QnA, QnE, Xa, ti30, Q7, Yo]) | (with_reducible (first | refine Qh fun K hK => ?_ | refine Ql ?_ | refine Qy ?_)) | ((with_reducible refine hK _ ?_); clear hK) | (refine Qk rfl ?_; simp only [↓reduceIte]))
    simp only [QI, Qm, Qu, upd, ↓reduceIte, Qnr, Qnv]; first | refine Qf (htake _ _) (.keep (.v _)) ⟨rfl, rfl⟩ | refine Qf List.take_length (.keep (.v _)) ⟨rfl, rfl⟩
  | true =>
    rw [hr] at c1
    rw [txtG, hr, if_pos rfl]
    by_cases k0 : g.op = 0
    · have z0 : (g.op == 0) = true := by simp [k0]
      rw [Xn, if_pos k0] at hr
      obtain ⟨hs, hf⟩ := Qa3 hr
      have c2 := Qb7 g.name hs g.args hn hf ho.2.2
      rw [Zo, if_pos k0]
      refine Qe Tryz.func15 rfl Tryz.call15 Tryz.ntmps15 (congrArg Array.toList Tryz.results15) (by simp) ?_
      repeat (first | ((first | (with_reducible (first | refine Qa fun K E hK hE => ?_ | refine Qo c1 ?_ | refine Qo c2 ?_))); simp -implicitDefEqProofs only [Qd, Qb, Qg, OpW, QO, aop, undef, AS.ev, Qc, Qn, QG, Qi, Qw, Qns, AV.QmP, QnF, QnG, Qv, Qt, QC, QnH, QnI, ↓reduceIte, Qny, Qnz, Nat.reduceAdd, Nat.reduceLT, Nat.reduceEqDiff, Qnx, QnK, QnT, Qp, QK, QL, aBin, QT, Qnl, Qnm, Qnn, QnA, QnE, QS, Xa, ti3, ti9, ti22, ti30, Yq, QaO, Zq, Q7, Yo, z0]) | (with_reducible (first | refine Qh fun K hK => ?_ | refine Qq ?_ | refine Ql ?_ | refine QA ?_ | refine Qj ?_ | refine Qy ?_ | refine QF ?_)) | ((with_reducible refine hK _ ?_); clear hK) | (refine Qk rfl ?_; simp only [↓reduceIte, Qnp]))
      simp only [QI, Qm, Qu, upd, ↓reduceIte, Qnr, Qnv]; first | refine Qf (htake _ _) (.keep (.v _)) ⟨rfl, rfl⟩ | refine Qf List.take_length (.keep (.v _)) ⟨rfl, rfl⟩
    have z0 : (g.op == 0) = false := by simp [k0]
    rw [Xn, if_neg k0] at hr
    simp only [Bool.and_eq_true, decide_eq_true_eq] at hr
    obtain ⟨hop, _, hlen, hrun⟩ := hr
    have hf := Qgr hrun
    by_cases k1 : g.op = 1
    · have z1 : (g.op == 1) = true := by simp [k1]
      rw [Zo, if_neg k0, if_pos k1]
      refine Qe Tryz.func15 rfl Tryz.call15 Tryz.ntmps15 (congrArg Array.toList Tryz.results15) (by simp) ?_
      repeat (first | ((first | (with_reducible (first | refine Qa fun K E hK hE => ?_ | refine Qo c1 ?_))); simp -implicitDefEqProofs only [Qd, Qb, Qg, OpW, QO, aop, undef, AS.ev, Qc, Qn, QG, Qi, Qw, Qns, AV.QmP, QnF, QnG, Qv, Qt, QC, QnH, QnI, ↓reduceIte, Qny, Qnz, Nat.reduceAdd, Nat.reduceLT, Nat.reduceEqDiff, Qnx, QnK, QnT, Qp, QK, QL, aBin, QT, Qnl, Qnn, QnA, QnE, QS, Xa, ti3, ti30, Yq, Q7, Yo, z0, z1]) | (with_reducible (first | refine Qh fun K hK => ?_ | refine Qq ?_ | refine Ql ?_ | refine QA ?_ | refine Qj ?_ | refine Qy ?_ | refine QF ?_)) | ((with_reducible refine hK _ ?_); clear hK) | (refine Qk rfl ?_; simp only [↓reduceIte, Qnp]))
      simp only [QI, Qm, Qu, upd, ↓reduceIte, Qnr, Qnv]; first | refine Qf (htake _ _) (.keep (.v _)) ⟨rfl, rfl⟩ | refine Qf List.take_length (.keep (.v _)) ⟨rfl, rfl⟩
    have z1 : (g.op == 1) = false := by simp [k1]
    by_cases k2 : g.op = 2
    · have z2 : (g.op == 2) = true := by simp [k2]
      rw [Zo, if_neg k0, if_neg k1, if_pos k2]
      refine Qe Tryz.func15 rfl Tryz.call15 Tryz.ntmps15 (congrArg Array.toList Tryz.results15) (by simp) ?_
      repeat (first | ((first | (with_reducible (first | refine Qa fun K E hK hE => ?_ | refine Qo c1 ?_))); simp -implicitDefEqProofs only [Qd, Qb, Qg, OpW, QO, aop, undef, AS.ev, Qc, Qn, QG, Qi, Qw, Qns, AV.QmP, QnF, QnG, Qv, Qt, QC, QnH, QnI, ↓reduceIte, Qny, Qnz, Nat.reduceAdd, Nat.reduceLT, Nat.reduceEqDiff, Qnx, QnK, QnT, Qp, QK, QL, aBin, QT, Qnl, Qnn, QnA, QnE, QS, Xa, ti3, ti30, Yq, Q7, Yo, z0, z1, z2]) | (with_reducible (first | refine Qh fun K hK => ?_ | refine Qq ?_ | refine Ql ?_ | refine QA ?_ | refine Qj ?_ | refine Qy ?_ | refine QF ?_)) | ((with_reducible refine hK _ ?_); clear hK) | (refine Qk rfl ?_; simp only [↓reduceIte, Qnp]))
      simp only [QI, Qm, Qu, upd, ↓reduceIte, Qnr, Qnv]; first | refine Qf (htake _ _) (.keep (.v _)) ⟨rfl, rfl⟩ | refine Qf List.take_length (.keep (.v _)) ⟨rfl, rfl⟩
    have z2 : (g.op == 2) = false := by simp [k2]
    by_cases k11 : g.op = 11
    · have z11 : (g.op == 11) = true := by simp [k11]
      rw [Zo, if_neg k0, if_neg k1, if_neg k2, if_pos k11]
      have c2 := Qb7 intB (by decide) g.args hn hf ho.2.2
      refine Qe Tryz.func15 rfl Tryz.call15 Tryz.ntmps15 (congrArg Array.toList Tryz.results15) (by simp) ?_
      repeat (first | ((first | (with_reducible (first | refine Qa fun K E hK hE => ?_ | refine Qo c1 ?_ | refine Qo c2 ?_))); simp -implicitDefEqProofs only [Qd, Qb, Qg, OpW, QO, aop, undef, AS.ev, Qc, Qn, QG, Qi, Qw, Qns, AV.QmP, QnF, QnG, Qv, Qt, QC, QnH, QnI, ↓reduceIte, Qny, Qnz, Nat.reduceAdd, Nat.reduceLT, Nat.reduceEqDiff, Qnx, QnK, QnT, Qp, QK, QL, aBin, QT, Qnl, Qnm, Qnn, QnA, QnE, QS, Xa, ti3, ti22, ti30, Yq, Zq, Q7, Yo, z0, z1, z2, z11]) | (with_reducible (first | refine Qh fun K hK => ?_ | refine Qq ?_ | refine Ql ?_ | refine QA ?_ | refine Qj ?_ | refine Qy ?_ | refine QF ?_)) | ((with_reducible refine hK _ ?_); clear hK) | (refine Qk rfl ?_; simp only [↓reduceIte, Qnp]))
      simp only [QI, Qm, Qu, upd, ↓reduceIte, Qnr, Qnv]; first | refine Qf (htake _ _) (.keep (.v _)) ⟨rfl, rfl⟩ | refine Qf List.take_length (.keep (.v _)) ⟨rfl, rfl⟩
    have z11 : (g.op == 11) = false := by simp [k11]
    by_cases k12 : g.op = 12
    · have z12 : (g.op == 12) = true := by simp [k12]
      rw [Zo, if_neg k0, if_neg k1, if_neg k2, if_neg k11, if_pos k12]
      have c2 := Qb7 grdB (by decide) g.args hn hf ho.2.2
      refine Qe Tryz.func15 rfl Tryz.call15 Tryz.ntmps15 (congrArg Array.toList Tryz.results15) (by simp) ?_
      repeat (first | ((first | (with_reducible (first | refine Qa fun K E hK hE => ?_ | refine Qo c1 ?_ | refine Qo c2 ?_))); simp -implicitDefEqProofs only [Qd, Qb, Qg, OpW, QO, aop, undef, AS.ev, Qc, Qn, QG, Qi, Qw, Qns, AV.QmP, QnF, QnG, Qv, Qt, QC, QnH, QnI, ↓reduceIte, Qny, Qnz, Nat.reduceAdd, Nat.reduceLT, Nat.reduceEqDiff, Qnx, QnK, QnT, Qp, QK, QL, aBin, QT, Qnl, Qnm, Qnn, QnA, QnE, QS, Xa, ti3, ti22, ti30, Yq, Zq, Q7, Yo, z0, z1, z2, z11, z12]) | (with_reducible (first | refine Qh fun K hK => ?_ | refine Qq ?_ | refine Ql ?_ | refine QA ?_ | refine Qj ?_ | refine Qy ?_ | refine QF ?_)) | ((with_reducible refine hK _ ?_); clear hK) | (refine Qk rfl ?_; simp only [↓reduceIte, Qnp]))
      simp only [QI, Qm, Qu, upd, ↓reduceIte, Qnr, Qnv]; first | refine Qf (htake _ _) (.keep (.v _)) ⟨rfl, rfl⟩ | refine Qf List.take_length (.keep (.v _)) ⟨rfl, rfl⟩
    have z12 : (g.op == 12) = false := by simp [k12]
    have hl2 : g.args.length = 2 := by
      rw [ZB, if_neg (by omega), if_neg (by omega)] at hlen; omega
    obtain ⟨x, y, hxy⟩ : ∃ x y, g.args = [x, y] := by
      match hh : g.args, hl2 with
      | [x, y], _ => exact ⟨x, y, rfl⟩
    have hoa := ho.2.2
    rw [hxy] at hf hoa hn
    have hnx : x.nds ≤ 1000000 ∧ y.nds ≤ 1000000 := by simp only [ndsL] at hn; omega
    have hfx : x.QmQ = true := Ya hf x (by simp)
    have hfy : y.QmQ = true := Ya hf y (by simp)
    have cx := QcX x hnx.1 hfx hoa.1
    have cy := QcX y hnx.2 hfy hoa.2.1
    have cs := QhA g.op (by omega) (by omega)
    rw [Zo, if_neg k0, if_neg k1, if_neg k2, if_neg k11, if_neg k12]
    have sx := (T.QmS hfx).2.1
    have sy := (T.QmS hfy).2.1
    have sx2 := T.QmT x
    have sy2 := T.QmT y
    have hav : avs g.args = [x.av, y.av] := by rw [hxy]; rfl
    have n02 : (0 : Int) < ((2 : Nat) : Int) := by decide
    have n01 : (0 : Int) ≤ 1 := by decide
    have n12 : (1 : Int) < ((2 : Nat) : Int) := by decide
    have hpt : pairT g.op (txts g.args) = (x.txt ++ (({ data := #[32] } : ByteArray) ++ Qdv g.op ++ { data := #[32] })) ++ y.txt := by rw [hxy]; rfl
    have sb : (Qdv g.op).size ≤ 3 := by
      have : g.op = 3 ∨ g.op = 4 ∨ g.op = 5 ∨ g.op = 6 ∨ g.op = 7 ∨ g.op = 8 ∨ g.op = 9 ∨ g.op = 10 := by omega
      rcases this with e | e | e | e | e | e | e | e <;> rw [e] <;> decide
    obtain ⟨X, eX⟩ : ∃ X, X = x.txt := ⟨_, rfl⟩
    obtain ⟨Y, eY⟩ : ∃ Y, Y = y.txt := ⟨_, rfl⟩
    obtain ⟨B, eB⟩ : ∃ B, B = Qdv g.op := ⟨_, rfl⟩
    rw [← eX] at cx sx hpt
    rw [← eY] at cy sy hpt
    rw [← eB] at cs sb hpt
    have h1 : ({ data := #[32] } : ByteArray).size = 1 := rfl
    have hsa1 := fun xo yo => Xv Tryz.prog 9 xo yo X ({ data := #[32] } : ByteArray) (by omega)
    have hsa2 := fun xo yo => Xv Tryz.prog 9 xo yo (X ++ ({ data := #[32] } : ByteArray)) B (by rw [QE]; omega)
    have hsa3 := fun xo yo => Xv Tryz.prog 9 xo yo (X ++ ({ data := #[32] } : ByteArray) ++ B) ({ data := #[32] } : ByteArray) (by rw [QE, QE]; omega)
    have hsa4 := fun xo yo => Xv Tryz.prog 9 xo yo (X ++ ({ data := #[32] } : ByteArray) ++ B ++ ({ data := #[32] } : ByteArray)) Y (by rw [QE, QE, QE]; omega)
    rw [hpt]
    refine Qe Tryz.func15 rfl Tryz.call15 Tryz.ntmps15 (congrArg Array.toList Tryz.results15) (by simp) ?_
    repeat (first | ((first | (with_reducible (first | refine Qa fun K E hK hE => ?_ | refine Qo c1 ?_ | refine QQ cx ?_ | refine QQ cy ?_ | refine QQ cs ?_)) | (refine QR (id := 14) [(0, 0), (1, 0), (2, 0), (3, 0), (4, 1), (5, 0), (6, 0), (7, 0), (8, 1), (9, 0), (10, 0), (11, 0), (12, 0), (13, 0), (14, 0), (15, 1), (16, 0), (17, 0)] mixed (by kernel_rfl) fun K hK => ?_)); simp -implicitDefEqProofs only [Q4, Q1, Xb, Qd, Qb, Qg, OpW, QO, aop, undef, AS.ev, Qc, Qn, QG, Qi, Qw, Qns, AV.QmP, QnF, QnG, Qv, Qt, QC, QnH, QnI, ↓reduceIte, Qny, Qnz, Nat.reduceAdd, Nat.reduceLT, Nat.reduceLeDiff, Nat.reduceEqDiff, Qnx, QnK, QnT, Qp, QK, QL, QZ, aBin, QT, Qnl, Qnm, Qnn, Qno, QnA, QnE, QS, Xa, Int.toNat_zero, Int.toNat_one, T.QmN, T.QmO, ti3, ti22, ei22, ti24, ti30, Yq, Zq, Qn8, Q7, Yo, z0, z1, z2, z11, z12, n02, n12, n01, hav, hsa1, hsa2, hsa3, hsa4]) | (with_reducible (first | refine Qh fun K hK => ?_ | refine Qq ?_ | refine Ql ?_ | refine QA ?_ | refine Qj ?_ | refine QD ?_)) | ((with_reducible refine hK _ ?_); clear hK) | (refine Qk rfl ?_; simp only [↓reduceIte, Qnp]))
    simp only [QI, Qm, Qu, upd, ↓reduceIte, Qnr, Qnv]; first | refine Qf (htake _ _) (.keep (.v _)) ⟨by simp only [ByteArray.append_assoc], rfl⟩ | refine Qf List.take_length (.keep (.v _)) ⟨by simp only [ByteArray.append_assoc], rfl⟩
end Go.Proofs.YtehjodmnajgdgaaGreatDoor.Ab
set_option maxRecDepth 4000
namespace Go.Proofs.YtehjodmnajgdgaaGreatDoor.Ab
open Go.Proofs
inductive Res (α : Type) where
  | ok (a : α) (r : List UInt8)
  | err (e : Int)
def mkB (l : List UInt8) : ByteArray := ⟨l.toArray⟩
def isD (c : UInt8) : Bool := decide (48 ≤ c.toNat ∧ c.toNat ≤ 57)
def isL (c : UInt8) : Bool := decide (97 ≤ c.toNat ∧ c.toNat ≤ 122 ∨ 65 ≤ c.toNat ∧ c.toNat ≤ 90 ∨ c.toNat = 95)
def isW (c : UInt8) : Bool := isL c || isD c
def skipSp : List UInt8 → List UInt8
  | [] => []
  | c :: r => if c.toNat = 32 then skipSp r else c :: r
def headD : List UInt8 → Bool
  | c :: _ => isD c
  | [] => false
def ZX (l : List UInt8) : Nat := l.foldl (fun n c => 10 * n + (c.toNat - 48)) 0
def eB : ByteArray := { data := #[] }
def pInt (s : Bool) (sign : Int) : List UInt8 → Res T
  | [] => .err 16
  | c :: r => if c.toNat = 48 then (if sign < 0 ∨ (s && headD r) = true then .err 16 else .ok (.mk 0 0 eB []) r) else
    if ZX ((c :: r).takeWhile isD) ≤ 2147483648 then .ok (.mk 0 (sign * ZX ((c :: r).takeWhile isD)) eB []) ((c :: r).dropWhile isD) else .err 5
def varV (s : ByteArray) : Option Nat := match Lib.decFrom 0 (s.data.toList.drop 1) with
  | some k => if k ≤ 1048576 ∧ s.data.toList = (vOf (decN k)).data.toList then some k else none
  | none => none
def Zc (ex : List UInt8 → Res T) : Nat → List T → List UInt8 → Res (List T)
  | 0, _, _ => .err 16
  | m + 1, l, r => match skipSp r with
    | [] => .err 16
    | c :: r2 => if c.toNat = 44 then (match ex r2 with
        | .ok t r3 => Zc ex m (l ++ [t]) r3
        | .err e => .err e) else if c.toNat = 41 then .ok l r2 else .err 16
def Zr (ex : List UInt8 → Res T) (r : List UInt8) : Res (List T) := match skipSp r with
  | [] => .ok [] []
  | c :: r2 => if c.toNat = 40 then (match ex r2 with
      | .ok t r3 => Zc ex (r3.length + 1) [t] r3
      | .err e => .err e) else .ok [] (c :: r2)
def ZV (ex : List UInt8 → Res T) (r : List UInt8) : Res T :=
  if (r.headD 0).toNat < 97 then (match varV (mkB (r.takeWhile isW)) with
    | some k => .ok (.mk 1 k eB []) (r.dropWhile isW)
    | none => .err 7) else
  if XV (mkB (r.takeWhile isW)) = true then (match Zr ex (r.dropWhile isW) with
    | .ok l r2 => .ok (.mk 2 0 (mkB (r.takeWhile isW)) l) r2
    | .err e => .err e) else .err 7
def Yz (s : Bool) (ex : List UInt8 → Res T) (r : List UInt8) : Res T := match skipSp r with
  | [] => .err 16
  | c :: r2 =>
    if isD c = true then pInt s 1 (c :: r2) else
    if c.toNat = 45 then (if headD r2 = true then pInt s (-1) r2 else .err 16) else
    if isL c = true then ZV ex (c :: r2) else
    if c.toNat = 40 then (match ex r2 with
      | .ok t r3 => (match skipSp r3 with
        | d :: r4 => if d.toNat = 41 then .ok t r4 else .err 16
        | [] => .err 16)
      | .err e => .err e) else .err 16
def X9 (op : List UInt8 → Res T) (st : Int) : Nat → T → List UInt8 → Res T
  | 0, t, r => .ok t (skipSp r)
  | m + 1, t, r => match skipSp r with
    | [] => .ok t []
    | c :: r2 => if ofB (mkB [c]) = st then (match op r2 with
        | .ok u r3 => X9 op st m (.mk 2 0 (mkB [c]) [t, u]) r3
        | .err e => .err e) else .ok t (c :: r2)
def chain (op : List UInt8 → Res T) (st : Int) (r : List UInt8) : Res T := match op r with
  | .ok t r2 => X9 op st (r2.length + 1) t r2
  | .err e => .err e
def YA (s : Bool) : Nat → List UInt8 → Res T
  | 0 => fun _ => .err 16
  | n + 1 => chain (chain (Yz s (YA s n)) 2) 1
def Zm (s : Bool) (l : List UInt8) : Res T := if 16384 < l.length then .err 6 else match YA s (l.length + 1) l with
  | .ok t r => if skipSp r ≠ [] then .err 16 else if (t.run 200 20).1 = true then .ok t [] else .err 6
  | .err e => .err e
def QaQ (s : Bool) (l : List UInt8) : Res G := if 16384 < l.length then .err 6 else match skipSp l with
  | [] => .err 16
  | c :: r => if 97 ≤ c.toNat ∧ c.toNat ≤ 122 then (match ZV (YA s (l.length + 1)) (c :: r) with
      | .ok t r2 => if skipSp r2 ≠ [] then .err 16 else if Q3 ⟨0, t.name, t.args⟩ = true then .ok ⟨0, t.name, t.args⟩ [] else .err 6
      | .err e => .err e) else .err 16
theorem exP1 : Zm false [102, 40, 86, 49, 44, 50, 41, 42, 51] = .ok (.mk 2 0 ⟨#[42]⟩ [.mk 2 0 ⟨#[102]⟩ [.mk 1 1 eB [], .mk 0 2 eB []], .mk 0 3 eB []]) [] := by kernel_rfl
theorem exP2 : Zm false [102, 40, 88, 41] = .err 7 := by kernel_rfl
theorem exP3 : QaQ false [108, 101, 113, 40, 32, 86, 48, 32, 44, 32, 97, 32, 41] = .ok ⟨0, ⟨#[108, 101, 113]⟩, [.mk 1 0 eB [], .mk 2 0 ⟨#[97]⟩ []]⟩ [] := by kernel_rfl
theorem exP4 : Zm false [49, 32, 50] = .err 16 := by kernel_rfl
end Go.Proofs.YtehjodmnajgdgaaGreatDoor.Ab
set_option maxRecDepth 4000
namespace Go.Proofs.YtehjodmnajgdgaaGreatDoor.Ab
open Go.Proofs
theorem ZG : ∀ r : List UInt8, (skipSp r).length ≤ r.length
  | [] => Nat.le_refl _
  | c :: r => by
    rw [skipSp]; split
    · have := ZG r; simp only [Qny]; omega
    · exact Nat.le_refl _
theorem Xl {r r2 : List UInt8} {c : UInt8} (h : skipSp r = c :: r2) : r2.length < r.length := by
  have := ZG r
  rw [h, List.length_cons] at this; omega
def Eats {α : Type} (k : Nat) (f : List UInt8 → Res α) : Prop := ∀ r a r2, f r = .ok a r2 → r2.length + k ≤ r.length
theorem QaZ (p : UInt8 → Bool) (r : List UInt8) : (r.dropWhile p).length ≤ r.length := (List.dropWhile_sublist p).length_le
theorem Qh7 (s : Bool) (sign : Int) {r r2 : List UInt8} {a : T} (h : pInt s sign r = .ok a r2) (hd : headD r = true) : r2.length + 1 ≤ r.length := by
  cases r with
  | nil => simp [headD] at hd
  | cons c r =>
    have hd : isD c = true := hd
    rw [pInt] at h
    split at h
    · split at h
      · cases h
      · cases h; simp
    · split at h
      · cases h
        rw [List.dropWhile_cons, if_pos hd]
        have := QaZ isD r
        simp only [Qny]; omega
      · cases h
theorem QgB {ex : List UInt8 → Res T} (H : Eats 0 ex) : ∀ (m : Nat) (l : List T) (r : List UInt8) (a : List T) (r2 : List UInt8), Zc ex m l r = .ok a r2 → r2.length + 1 ≤ r.length
  | 0, _, _, _, _, h => by cases h
  | m + 1, l, r, a, r2, h => by
    rw [Zc] at h
    cases hs : skipSp r with
    | nil => rw [hs] at h; cases h
    | cons c r3 =>
      have hl := Xl hs
      rw [hs] at h
      simp only at h
      split at h
      · cases he : ex r3 with
        | err e => rw [he] at h; cases h
        | ok t r4 =>
          rw [he] at h
          have h1 := H _ _ _ he
          have h2 := QgB H m _ r4 a r2 h
          omega
      · split at h
        · cases h; omega
        · cases h
theorem Qkd {ex : List UInt8 → Res T} (H : Eats 0 ex) {r r2 : List UInt8} {a : List T} (h : Zr ex r = .ok a r2) : r2.length ≤ r.length := by
  rw [Zr] at h
  have hl := ZG r
  cases hs : skipSp r with
  | nil => rw [hs] at h; cases h; exact Nat.zero_le _
  | cons c r3 =>
    rw [hs] at h hl
    simp only [Qny] at h hl
    split at h
    · cases he : ex r3 with
      | err e => rw [he] at h; cases h
      | ok t r4 =>
        rw [he] at h
        have h1 := H _ _ _ he
        have h2 := QgB H _ _ r4 a r2 h
        omega
    · cases h; simp only [Qny]; omega
theorem Qkl {ex : List UInt8 → Res T} (H : Eats 0 ex) {c : UInt8} (hc : isW c = true) {r r2 : List UInt8} {a : T} (h : ZV ex (c :: r) = .ok a r2) : r2.length + 1 ≤ (c :: r).length := by
  have hd : ((c :: r).dropWhile isW).length + 1 ≤ (c :: r).length := by
    rw [List.dropWhile_cons, if_pos hc]
    have := QaZ isW r
    simp only [Qny]; omega
  rw [ZV] at h
  split at h
  · split at h
    · cases h; exact hd
    · cases h
  · split at h
    · cases ha : Zr ex ((c :: r).dropWhile isW) with
      | err e => rw [ha] at h; cases h
      | ok l r3 =>
        rw [ha] at h
        cases h
        have := Qkd H ha
        omega
    · cases h
theorem Qin {c : UInt8} (h : isL c = true) : isW c = true := by rw [isW, h]; rfl
theorem Qbd (s : Bool) {ex : List UInt8 → Res T} (H : Eats 0 ex) : Eats 1 (Yz s ex) := by
  intro r a r2 h
  rw [Yz] at h
  cases hs : skipSp r with
  | nil => rw [hs] at h; cases h
  | cons c r3 =>
    have hl := ZG r
    rw [hs] at h hl
    simp only [Qny] at h hl
    split at h
    · rename_i hd
      have := Qh7 s 1 h hd
      simp only [Qny] at this; omega
    · split at h
      · split at h
        · rename_i hd
          have := Qh7 s (-1) h hd
          omega
        · cases h
      · split at h
        · rename_i hw
          have := Qkl H (Qin hw) h
          simp only [Qny] at this; omega
        · split at h
          · cases he : ex r3 with
            | err e => rw [he] at h; cases h
            | ok t r4 =>
              rw [he] at h
              have h1 := H _ _ _ he
              simp only at h
              cases hs2 : skipSp r4 with
              | nil => rw [hs2] at h; cases h
              | cons d r5 =>
                have h2 := Xl hs2
                rw [hs2] at h
                simp only at h
                split at h
                · cases h; omega
                · cases h
          · cases h
theorem QeI {op : List UInt8 → Res T} (H : Eats 0 op) (st : Int) : ∀ (m : Nat) (t : T) (r : List UInt8) (a : T) (r2 : List UInt8), X9 op st m t r = .ok a r2 → r2.length ≤ r.length
  | 0, t, r, a, r2, h => by rw [X9] at h; cases h; exact ZG r
  | m + 1, t, r, a, r2, h => by
    rw [X9] at h
    have hl := ZG r
    cases hs : skipSp r with
    | nil => rw [hs] at h; cases h; exact Nat.zero_le _
    | cons c r3 =>
      rw [hs] at h hl
      simp only [Qny] at h hl
      split at h
      · cases he : op r3 with
        | err e => rw [he] at h; cases h
        | ok u r4 =>
          rw [he] at h
          have h1 := H _ _ _ he
          have h2 := QeI H st m _ r4 a r2 h
          omega
      · cases h; simp only [Qny]; omega
theorem ZF {op : List UInt8 → Res T} {k : Nat} (H : Eats k op) (st : Int) : Eats k (chain op st) := by
  intro r a r2 h
  rw [chain] at h
  cases he : op r with
  | err e => rw [he] at h; cases h
  | ok t r3 =>
    rw [he] at h
    have h1 := H _ _ _ he
    have h2 := QeI (fun r a r2 h => by have := H r a r2 h; omega) st _ _ _ _ _ h
    omega
theorem Eats.zero {α : Type} {k : Nat} {f : List UInt8 → Res α} (H : Eats k f) : Eats 0 f := fun r a r2 h => by have := H r a r2 h; omega
theorem Yg (s : Bool) : ∀ n, Eats 0 (YA s n)
  | 0 => fun r a r2 h => by cases h
  | n + 1 => (ZF (ZF (Qbd s (Yg s n)) 2) 1).zero
theorem Qeh {op : List UInt8 → Res T} (H : Eats 0 op) (st : Int) : ∀ (n m m' : Nat) (t : T) (r : List UInt8), r.length ≤ n → n < m → n < m' → X9 op st m t r = X9 op st m' t r := by
  intro n
  induction n with
  | zero =>
    intro m m' t r hr h1 h2
    obtain ⟨a, rfl⟩ : ∃ a, m = a + 1 := ⟨m - 1, by omega⟩
    obtain ⟨b, rfl⟩ : ∃ a, m' = a + 1 := ⟨m' - 1, by omega⟩
    have : r = [] := List.eq_nil_of_length_eq_zero (by omega)
    subst this; rfl
  | succ n ih =>
    intro m m' t r hr h1 h2
    obtain ⟨a, rfl⟩ : ∃ a, m = a + 1 := ⟨m - 1, by omega⟩
    obtain ⟨b, rfl⟩ : ∃ a, m' = a + 1 := ⟨m' - 1, by omega⟩
    rw [X9, X9]
    cases hs : skipSp r with
    | nil => rfl
    | cons c r3 =>
      have hl := Xl hs
      simp only
      split
      · cases he : op r3 with
        | err e => rfl
        | ok u r4 =>
          have h1' := H _ _ _ he
          exact ih a b _ r4 (by omega) (by omega) (by omega)
      · rfl
theorem QjR {ex : List UInt8 → Res T} (H : Eats 0 ex) : ∀ (n m m' : Nat) (l : List T) (r : List UInt8), r.length ≤ n → n < m → n < m' → Zc ex m l r = Zc ex m' l r := by
  intro n
  induction n with
  | zero =>
    intro m m' l r hr h1 h2
    obtain ⟨a, rfl⟩ : ∃ a, m = a + 1 := ⟨m - 1, by omega⟩
    obtain ⟨b, rfl⟩ : ∃ a, m' = a + 1 := ⟨m' - 1, by omega⟩
    have : r = [] := List.eq_nil_of_length_eq_zero (by omega)
    subst this; rfl
  | succ n ih =>
    intro m m' l r hr h1 h2
    obtain ⟨a, rfl⟩ : ∃ a, m = a + 1 := ⟨m - 1, by omega⟩
    obtain ⟨b, rfl⟩ : ∃ a, m' = a + 1 := ⟨m' - 1, by omega⟩
    rw [Zc, Zc]
    cases hs : skipSp r with
    | nil => rfl
    | cons c r3 =>
      have hl := Xl hs
      simp only
      split
      · cases he : ex r3 with
        | err e => rfl
        | ok u r4 =>
          have h1' := H _ _ _ he
          exact ih a b _ r4 (by omega) (by omega) (by omega)
      · rfl
end Go.Proofs.YtehjodmnajgdgaaGreatDoor.Ab
set_option maxRecDepth 4000
namespace Go.Proofs.YtehjodmnajgdgaaGreatDoor.Ab
open Go.Proofs
def Err (e : Int) : AV := .ifc 38 (.i e)
theorem Qar (n : Nat) (e : Int) : Below n (Err e) := .ifc _ _ (.v _)
theorem ZW (e : Int) : Pure Tryz.prog 54 [.b true, .i e] (.tup []) := by
  intro h
  refine Qe Tryz.func54 rfl Tryz.call54 Tryz.ntmps54 (congrArg Array.toList Tryz.results54) (by simp) ?_
  repeat (first | (((with_reducible refine Qa fun K E hK hE => ?_)); simp -implicitDefEqProofs only [Qd, Qb, Qg, OpW, aop, undef, AS.ev, Qc, Qi, Qw, Qns, QnI, ↓reduceIte, Nat.reduceLT, Qnn, Xa]) | (with_reducible refine QA ?_) | ((with_reducible refine hK _ ?_); clear hK) | (refine Qk rfl ?_; simp only [↓reduceIte, Qnp]))
  simp -implicitDefEqProofs only [Qnn, Qnr, List.mapM_nil, Option.pure_def, Qnn, QI, Qm, Qnv]
  exact .inr ⟨rfl, rfl⟩
theorem QbO (e : Int) (h : AH) : Xd Tryz.prog 54 [.b false, .i e] h fun o h' => o = .panic (Err e) ∧ h' = h := by
  refine Qe Tryz.func54 rfl Tryz.call54 Tryz.ntmps54 (congrArg Array.toList Tryz.results54) (by simp) ?_
  repeat (first | ((first | (with_reducible (first | refine Qa fun K E hK hE => ?_ | refine Qs fun K E hK hE => ?_))); simp -implicitDefEqProofs only [Qd, Qb, Qg, OpW, aop, undef, AS.ev, Qc, Qi, Qw, Qns, QnL, QnJ, ↓reduceIte, Nat.reduceLT, Nat.reduceEqDiff, Qnn, Xa, un38]) | ((with_reducible refine hK _ ?_); clear hK) | (refine Qk rfl ?_; simp only [↓reduceIte]) | (with_reducible refine hE _ _ ?_))
  exact Qf List.take_length (.keep (Qar _ _)) ⟨rfl, rfl⟩
theorem Qas (c : UInt8) : Pure Tryz.prog 93 [.v (.int .u8 (c.toNat : Nat))] (.b (isD c)) := by
  intro h
  by_cases h1 : (48 : Int) ≤ (c.toNat : Nat)
  · by_cases h2 : ((c.toNat : Nat) : Int) ≤ 57
    · refine Qe Tryz.func93 rfl Tryz.call93 Tryz.ntmps93 (congrArg Array.toList Tryz.results93) (by simp) ?_
      repeat (first | (((with_reducible refine Qa fun K E hK hE => ?_)); simp -implicitDefEqProofs only [Qd, Qb, Qg, OpW, aop, undef, AS.ev, Qc, Qn, Qr, Qi, Qw, Qns, ↓reduceIte, Nat.reduceLT, Nat.reduceEqDiff, aBin, Qnl, Qnm, Qnn, Qnq, Qno, Xe, QnR, Qnt, h1, h2]) | (with_reducible refine Ql ?_) | ((with_reducible refine hK _ ?_); clear hK))
      simp only [QI, Qm, Qu, upd, ↓reduceIte, Qnr, Qnv]; first | refine Qf (htake _ _) (.keep (.v _)) ⟨by rw [isD, decide_eq_true (by omega)], rfl⟩ | refine Qf List.take_length (.keep (.v _)) ⟨by rw [isD, decide_eq_true (by omega)], rfl⟩
    · refine Qe Tryz.func93 rfl Tryz.call93 Tryz.ntmps93 (congrArg Array.toList Tryz.results93) (by simp) ?_
      repeat (first | (((with_reducible refine Qa fun K E hK hE => ?_)); simp -implicitDefEqProofs only [Qd, Qb, Qg, OpW, aop, undef, AS.ev, Qc, Qn, Qr, Qi, Qw, Qns, ↓reduceIte, Nat.reduceLT, Nat.reduceEqDiff, aBin, Qnl, Qnm, Qnn, Qnq, Qno, Xe, QnR, QnS, Qnt, h1, h2]) | (with_reducible refine Ql ?_) | ((with_reducible refine hK _ ?_); clear hK))
      simp only [QI, Qm, Qu, upd, ↓reduceIte, Qnr, Qnv]; first | refine Qf (htake _ _) (.keep (.v _)) ⟨by rw [isD, decide_eq_false (by omega)], rfl⟩ | refine Qf List.take_length (.keep (.v _)) ⟨by rw [isD, decide_eq_false (by omega)], rfl⟩
  · refine Qe Tryz.func93 rfl Tryz.call93 Tryz.ntmps93 (congrArg Array.toList Tryz.results93) (by simp) ?_
    repeat (first | (((with_reducible refine Qa fun K E hK hE => ?_)); simp -implicitDefEqProofs only [Qd, Qb, Qg, OpW, aop, undef, AS.ev, Qc, Qn, Qr, Qi, Qw, Qns, ↓reduceIte, Nat.reduceLT, Nat.reduceEqDiff, aBin, Qnl, Qnm, Qnn, Qnq, Qno, Xe, QnS, Qnp, beq_true, h1]) | (with_reducible refine Ql ?_) | ((with_reducible refine hK _ ?_); clear hK))
    simp only [QI, Qm, Qu, upd, ↓reduceIte, Qnr, Qnv]; first | refine Qf (htake _ _) (.keep (.v _)) ⟨by rw [isD, decide_eq_false (by omega)], rfl⟩ | refine Qf List.take_length (.keep (.v _)) ⟨by rw [isD, decide_eq_false (by omega)], rfl⟩
theorem QbR (c : UInt8) : Pure Tryz.prog 92 [.v (.int .u8 (c.toNat : Nat))] (.b (isL c)) := by
  intro h
  have yes : ∀ {p : Prop} [Decidable p], p → decide p = true := fun h => decide_eq_true h
  by_cases h1 : (97 : Int) ≤ (c.toNat : Nat)
  · by_cases h2 : ((c.toNat : Nat) : Int) ≤ 122
    · refine Qe Tryz.func92 rfl Tryz.call92 Tryz.ntmps92 (congrArg Array.toList Tryz.results92) (by simp) ?_
      iterate 4 (try (first | ((first | (with_reducible (first | refine Qa fun K E hK hE => ?_ | refine Qs fun K E hK hE => ?_))); simp -implicitDefEqProofs only [Qd, Qb, Qg, OpW, aop, AS.ev, Qc, Qr, Nat.reduceLT]) | (with_reducible refine Qh fun K hK => ?_) | ((with_reducible refine hK _ ?_); clear hK)))
      (with_reducible refine Qs fun K E hK hE => ?_)
      (try simp only [QnW]); refine Qz 6 (fun K1 hK1 => ?_); simp -implicitDefEqProofs only [Qd, Qb, Qg, OpW, aop, undef, AS.ev, Qc, Qn, Qi, Qw, Qns, ↓reduceIte, Nat.reduceLT, Nat.reduceEqDiff, aBin, Qnl, Qnm, Qnn, Qnq, Qno, Qnw, QnD, Xe, QnR, Qnt, h1, h2]; refine hK1 _ ?_; clear hK1
      (try simp only [Qnu, QnC]); refine Qz 6 (fun K1 hK1 => ?_); simp -implicitDefEqProofs only [Qd, Qb, Qg, OpW, aop, undef, AS.ev, Qc, Qi, QnI, ↓reduceIte, Nat.reduceLT, Nat.reduceEqDiff, Qnl, Qnm, Qnq, Qno, Qnw, QnD, beq_false]; refine hK1 _ ?_; clear hK1
      (try simp only [Qnu, QnC]); refine Qz 4 (fun K1 hK1 => ?_); simp -implicitDefEqProofs only [Qd, Qb, Qg, OpW, aop, undef, AS.ev, Qc, Qr, Qi, QnI, ↓reduceIte, Nat.reduceLT, Nat.reduceEqDiff, Qnl, Qnm, Qnq, Qno, Qnw, QnD, beq_false]; refine hK1 _ ?_; clear hK1
      (try simp only [Qnu, QnC])
      simp -implicitDefEqProofs only [Qd, Qb, Qg, OpW, aop, undef, AS.ev, Qc, Qr, Qi, QnI, ↓reduceIte, Nat.reduceLT, Nat.reduceEqDiff, Qnl, Qnm, Qnq, Qno, beq_false]
      repeat (first | (with_reducible (first | refine Ql ?_ | refine Qj ?_)) | ((with_reducible refine hK _ ?_); clear hK))
      simp only [QI, Qm, Qu, upd, ↓reduceIte, Qnr, Qnv]; first | refine Qf (htake _ _) (.keep (.v _)) ⟨by rw [isL, decide_eq_true (by omega)], rfl⟩ | refine Qf List.take_length (.keep (.v _)) ⟨by rw [isL, decide_eq_true (by omega)], rfl⟩
    · have h3 : (65 : Int) ≤ (c.toNat : Nat) := by omega
      have h4 : ¬ ((c.toNat : Nat) : Int) ≤ 90 := by omega
      have h5 : (((c.toNat : Nat) : Int) == 95) = false := by simp; omega
      refine Qe Tryz.func92 rfl Tryz.call92 Tryz.ntmps92 (congrArg Array.toList Tryz.results92) (by simp) ?_
      iterate 4 (try (first | ((first | (with_reducible (first | refine Qa fun K E hK hE => ?_ | refine Qs fun K E hK hE => ?_))); simp -implicitDefEqProofs only [Qd, Qb, Qg, OpW, aop, AS.ev, Qc, Qr, Nat.reduceLT]) | (with_reducible refine Qh fun K hK => ?_) | ((with_reducible refine hK _ ?_); clear hK)))
      (with_reducible refine Qs fun K E hK hE => ?_)
      (try simp only [QnW]); refine Qz 6 (fun K1 hK1 => ?_); simp -implicitDefEqProofs only [Qd, Qb, Qg, OpW, aop, undef, AS.ev, Qc, Qn, Qi, Qw, Qns, ↓reduceIte, Nat.reduceLT, Nat.reduceEqDiff, aBin, Qnl, Qnm, Qnn, Qnq, Qno, Qnw, QnD, Xe, QnR, QnS, Qnt, h1, h2]; refine hK1 _ ?_; clear hK1
      (try simp only [Qnu, QnC]); refine Qz 6 (fun K1 hK1 => ?_); simp -implicitDefEqProofs only [Qd, Qb, Qg, OpW, aop, undef, AS.ev, Qc, Qn, Qi, Qw, Qns, ↓reduceIte, Nat.reduceLT, Nat.reduceEqDiff, aBin, Qnl, Qnm, Qnn, Qnq, Qno, Qnw, QnD, Xe, QnR, QnS, Qnt, h3, h4]; refine hK1 _ ?_; clear hK1
      (try simp only [Qnu, QnC]); refine Qz 4 (fun K1 hK1 => ?_); simp -implicitDefEqProofs only [Qd, Qb, Qg, OpW, aop, undef, AS.ev, Qc, Qi, Qw, Qns, ↓reduceIte, Nat.reduceLT, Nat.reduceEqDiff, Qnl, Qnm, Qnq, Qno, Qnw, QnD, Qnt, Qnp]; refine hK1 _ ?_; clear hK1
      (try simp only [Qnu, QnC])
      simp -implicitDefEqProofs only [Qd, Qb, Qg, OpW, aop, AS.ev, Qc, Qn, Qi, ↓reduceIte, Nat.reduceLT, Nat.reduceEqDiff, aBin, Qnl, Qnm, Qnn, Qnq, Qno, QS, Qnt, Qnp, h5]
      repeat (first | (with_reducible (first | refine Ql ?_ | refine Qj ?_)) | ((with_reducible refine hK _ ?_); clear hK))
      simp only [QI, Qm, Qu, upd, ↓reduceIte, Qnr, Qnv]; first | refine Qf (htake _ _) (.keep (.v _)) ⟨by rw [isL, decide_eq_false (by omega)], rfl⟩ | refine Qf List.take_length (.keep (.v _)) ⟨by rw [isL, decide_eq_false (by omega)], rfl⟩
  · by_cases h3 : (65 : Int) ≤ (c.toNat : Nat)
    · by_cases h4 : ((c.toNat : Nat) : Int) ≤ 90
      · refine Qe Tryz.func92 rfl Tryz.call92 Tryz.ntmps92 (congrArg Array.toList Tryz.results92) (by simp) ?_
        iterate 4 (try (first | ((first | (with_reducible (first | refine Qa fun K E hK hE => ?_ | refine Qs fun K E hK hE => ?_))); simp -implicitDefEqProofs only [Qd, Qb, Qg, OpW, aop, AS.ev, Qc, Qr, Nat.reduceLT]) | (with_reducible refine Qh fun K hK => ?_) | ((with_reducible refine hK _ ?_); clear hK)))
        (with_reducible refine Qs fun K E hK hE => ?_)
        (try simp only [QnW]); refine Qz 6 (fun K1 hK1 => ?_); simp -implicitDefEqProofs only [Qd, Qb, Qg, OpW, aop, undef, AS.ev, Qc, Qn, Qr, Qi, Qw, Qns, ↓reduceIte, Nat.reduceLT, Nat.reduceEqDiff, aBin, Qnl, Qnm, Qnn, Qnq, Qno, Qnw, QnD, Xe, QnS, Qnp, beq_true, h1]; refine hK1 _ ?_; clear hK1
        (try simp only [Qnu, QnC]); refine Qz 6 (fun K1 hK1 => ?_); simp -implicitDefEqProofs only [Qd, Qb, Qg, OpW, aop, undef, AS.ev, Qc, Qn, Qi, Qw, Qns, ↓reduceIte, Nat.reduceLT, Nat.reduceEqDiff, aBin, Qnl, Qnm, Qnn, Qnq, Qno, Qnw, QnD, Xe, QnR, Qnt, h3, h4]; refine hK1 _ ?_; clear hK1
        (try simp only [Qnu, QnC]); refine Qz 4 (fun K1 hK1 => ?_); simp -implicitDefEqProofs only [Qd, Qb, Qg, OpW, aop, undef, AS.ev, Qc, Qi, QnI, ↓reduceIte, Nat.reduceLT, Nat.reduceEqDiff, Qnl, Qnm, Qnq, Qno, Qnw, QnD, Qnt, Qnp, beq_false]; refine hK1 _ ?_; clear hK1
        (try simp only [Qnu, QnC])
        simp -implicitDefEqProofs only [Qd, Qb, Qg, OpW, aop, undef, AS.ev, Qc, Qr, Qi, QnI, ↓reduceIte, Nat.reduceLT, Nat.reduceEqDiff, Qnl, Qnm, Qnq, Qno, beq_false]
        repeat (first | (with_reducible (first | refine Ql ?_ | refine Qj ?_)) | ((with_reducible refine hK _ ?_); clear hK))
        simp only [QI, Qm, Qu, upd, ↓reduceIte, Qnr, Qnv]; first | refine Qf (htake _ _) (.keep (.v _)) ⟨by rw [isL, decide_eq_true (by omega)], rfl⟩ | refine Qf List.take_length (.keep (.v _)) ⟨by rw [isL, decide_eq_true (by omega)], rfl⟩
      · cases h5 : (((c.toNat : Nat) : Int) == 95) with
        | true =>
          have h6 : ((c.toNat : Nat) : Int) = 95 := by simpa using h5
          refine Qe Tryz.func92 rfl Tryz.call92 Tryz.ntmps92 (congrArg Array.toList Tryz.results92) (by simp) ?_
          iterate 4 (try (first | ((first | (with_reducible (first | refine Qa fun K E hK hE => ?_ | refine Qs fun K E hK hE => ?_))); simp -implicitDefEqProofs only [Qd, Qb, Qg, OpW, aop, AS.ev, Qc, Qr, Nat.reduceLT]) | (with_reducible refine Qh fun K hK => ?_) | ((with_reducible refine hK _ ?_); clear hK)))
          (with_reducible refine Qs fun K E hK hE => ?_)
          (try simp only [QnW]); refine Qz 6 (fun K1 hK1 => ?_); simp -implicitDefEqProofs only [Qd, Qb, Qg, OpW, aop, undef, AS.ev, Qc, Qn, Qr, Qi, Qw, Qns, ↓reduceIte, Nat.reduceLT, Nat.reduceEqDiff, aBin, Qnl, Qnm, Qnn, Qnq, Qno, Qnw, QnD, Xe, QnS, Qnp, beq_true, h1]; refine hK1 _ ?_; clear hK1
          (try simp only [Qnu, QnC]); refine Qz 6 (fun K1 hK1 => ?_); simp -implicitDefEqProofs only [Qd, Qb, Qg, OpW, aop, undef, AS.ev, Qc, Qn, Qi, Qw, Qns, ↓reduceIte, Nat.reduceLT, Nat.reduceEqDiff, aBin, Qnl, Qnm, Qnn, Qnq, Qno, Qnw, QnD, Xe, QnR, QnS, Qnt, h3, h4]; refine hK1 _ ?_; clear hK1
          (try simp only [Qnu, QnC]); refine Qz 4 (fun K1 hK1 => ?_); simp -implicitDefEqProofs only [Qd, Qb, Qg, OpW, aop, undef, AS.ev, Qc, Qi, Qw, Qns, ↓reduceIte, Nat.reduceLT, Nat.reduceEqDiff, Qnl, Qnm, Qnq, Qno, Qnw, QnD, Qnt, Qnp]; refine hK1 _ ?_; clear hK1
          (try simp only [Qnu, QnC])
          simp -implicitDefEqProofs only [Qd, Qb, Qg, OpW, aop, AS.ev, Qc, Qn, Qi, ↓reduceIte, Nat.reduceLT, Nat.reduceEqDiff, aBin, Qnl, Qnm, Qnn, Qnq, Qno, QS, Qnt, Qnp, h5]
          repeat (first | (with_reducible (first | refine Ql ?_ | refine Qj ?_)) | ((with_reducible refine hK _ ?_); clear hK))
          simp only [QI, Qm, Qu, upd, ↓reduceIte, Qnr, Qnv]; first | refine Qf (htake _ _) (.keep (.v _)) ⟨by rw [isL, decide_eq_true (by omega)], rfl⟩ | refine Qf List.take_length (.keep (.v _)) ⟨by rw [isL, decide_eq_true (by omega)], rfl⟩
        | false =>
          have h6 : ¬ ((c.toNat : Nat) : Int) = 95 := by simpa using h5
          refine Qe Tryz.func92 rfl Tryz.call92 Tryz.ntmps92 (congrArg Array.toList Tryz.results92) (by simp) ?_
          iterate 4 (try (first | ((first | (with_reducible (first | refine Qa fun K E hK hE => ?_ | refine Qs fun K E hK hE => ?_))); simp -implicitDefEqProofs only [Qd, Qb, Qg, OpW, aop, AS.ev, Qc, Qr, Nat.reduceLT]) | (with_reducible refine Qh fun K hK => ?_) | ((with_reducible refine hK _ ?_); clear hK)))
          (with_reducible refine Qs fun K E hK hE => ?_)
          (try simp only [QnW]); refine Qz 6 (fun K1 hK1 => ?_); simp -implicitDefEqProofs only [Qd, Qb, Qg, OpW, aop, undef, AS.ev, Qc, Qn, Qr, Qi, Qw, Qns, ↓reduceIte, Nat.reduceLT, Nat.reduceEqDiff, aBin, Qnl, Qnm, Qnn, Qnq, Qno, Qnw, QnD, Xe, QnS, Qnp, beq_true, h1]; refine hK1 _ ?_; clear hK1
          (try simp only [Qnu, QnC]); refine Qz 6 (fun K1 hK1 => ?_); simp -implicitDefEqProofs only [Qd, Qb, Qg, OpW, aop, undef, AS.ev, Qc, Qn, Qi, Qw, Qns, ↓reduceIte, Nat.reduceLT, Nat.reduceEqDiff, aBin, Qnl, Qnm, Qnn, Qnq, Qno, Qnw, QnD, Xe, QnR, QnS, Qnt, h3, h4]; refine hK1 _ ?_; clear hK1
          (try simp only [Qnu, QnC]); refine Qz 4 (fun K1 hK1 => ?_); simp -implicitDefEqProofs only [Qd, Qb, Qg, OpW, aop, undef, AS.ev, Qc, Qi, Qw, Qns, ↓reduceIte, Nat.reduceLT, Nat.reduceEqDiff, Qnl, Qnm, Qnq, Qno, Qnw, QnD, Qnt, Qnp]; refine hK1 _ ?_; clear hK1
          (try simp only [Qnu, QnC])
          simp -implicitDefEqProofs only [Qd, Qb, Qg, OpW, aop, AS.ev, Qc, Qn, Qi, ↓reduceIte, Nat.reduceLT, Nat.reduceEqDiff, aBin, Qnl, Qnm, Qnn, Qnq, Qno, QS, Qnt, Qnp, h5]
          repeat (first | (with_reducible (first | refine Ql ?_ | refine Qj ?_)) | ((with_reducible refine hK _ ?_); clear hK))
          simp only [QI, Qm, Qu, upd, ↓reduceIte, Qnr, Qnv]; first | refine Qf (htake _ _) (.keep (.v _)) ⟨by rw [isL, decide_eq_false (by omega)], rfl⟩ | refine Qf List.take_length (.keep (.v _)) ⟨by rw [isL, decide_eq_false (by omega)], rfl⟩
    · have h5 : (((c.toNat : Nat) : Int) == 95) = false := by simp; omega
      refine Qe Tryz.func92 rfl Tryz.call92 Tryz.ntmps92 (congrArg Array.toList Tryz.results92) (by simp) ?_
      iterate 4 (try (first | ((first | (with_reducible (first | refine Qa fun K E hK hE => ?_ | refine Qs fun K E hK hE => ?_))); simp -implicitDefEqProofs only [Qd, Qb, Qg, OpW, aop, AS.ev, Qc, Qr, Nat.reduceLT]) | (with_reducible refine Qh fun K hK => ?_) | ((with_reducible refine hK _ ?_); clear hK)))
      (with_reducible refine Qs fun K E hK hE => ?_)
      (try simp only [QnW]); refine Qz 6 (fun K1 hK1 => ?_); simp -implicitDefEqProofs only [Qd, Qb, Qg, OpW, aop, undef, AS.ev, Qc, Qn, Qr, Qi, Qw, Qns, ↓reduceIte, Nat.reduceLT, Nat.reduceEqDiff, aBin, Qnl, Qnm, Qnn, Qnq, Qno, Qnw, QnD, Xe, QnS, Qnp, beq_true, h1]; refine hK1 _ ?_; clear hK1
      (try simp only [Qnu, QnC]); refine Qz 6 (fun K1 hK1 => ?_); simp -implicitDefEqProofs only [Qd, Qb, Qg, OpW, aop, undef, AS.ev, Qc, Qn, Qi, Qw, Qns, ↓reduceIte, Nat.reduceLT, Nat.reduceEqDiff, aBin, Qnl, Qnm, Qnn, Qnq, Qno, Qnw, QnD, Xe, QnS, Qnt, beq_true, h3]; refine hK1 _ ?_; clear hK1
      (try simp only [Qnu, QnC]); refine Qz 4 (fun K1 hK1 => ?_); simp -implicitDefEqProofs only [Qd, Qb, Qg, OpW, aop, undef, AS.ev, Qc, Qr, Qi, Qw, Qns, ↓reduceIte, Nat.reduceLT, Nat.reduceEqDiff, Qnl, Qnm, Qnq, Qno, Qnw, QnD, Qnt, Qnp]; refine hK1 _ ?_; clear hK1
      (try simp only [Qnu, QnC])
      simp -implicitDefEqProofs only [Qd, Qb, Qg, OpW, aop, AS.ev, Qc, Qn, Qi, ↓reduceIte, Nat.reduceLT, Nat.reduceEqDiff, aBin, Qnl, Qnm, Qnn, Qnq, Qno, QS, Qnt, Qnp, h5]
      repeat (first | (with_reducible (first | refine Ql ?_ | refine Qj ?_)) | ((with_reducible refine hK _ ?_); clear hK))
      simp only [QI, Qm, Qu, upd, ↓reduceIte, Qnr, Qnv]; first | refine Qf (htake _ _) (.keep (.v _)) ⟨by rw [isL, decide_eq_false (by omega)], rfl⟩ | refine Qf List.take_length (.keep (.v _)) ⟨by rw [isL, decide_eq_false (by omega)], rfl⟩
theorem Qi2 (c : UInt8) : Pure Tryz.prog 91 [.v (.int .u8 (c.toNat : Nat))] (.b (isW c)) := by
  intro h
  have c1 := QbR c
  have c2 := Qas c
  cases h1 : isL c
  · rw [h1] at c1
    refine Qe Tryz.func91 rfl Tryz.call91 Tryz.ntmps91 (congrArg Array.toList Tryz.results91) (by simp) ?_
    repeat (first | ((first | (with_reducible (first | refine Qa fun K E hK hE => ?_ | refine Qo c1 ?_ | refine Qo c2 ?_))); simp -implicitDefEqProofs only [Qd, Qb, Qg, OpW, QO, aop, undef, AS.ev, Qc, Qr, Qi, Qw, Qns, ↓reduceIte, Nat.reduceLT, Nat.reduceEqDiff, Qnl, Qnm, Qnq, Qno, QnA, QnE, Qnt, Qnp]) | (with_reducible refine Ql ?_) | ((with_reducible refine hK _ ?_); clear hK))
    simp only [QI, Qm, Qu, upd, ↓reduceIte, Qnr, Qnv]; first | refine Qf (htake _ _) (.keep (.v _)) ⟨by rw [isW, h1, Bool.false_or], rfl⟩ | refine Qf List.take_length (.keep (.v _)) ⟨by rw [isW, h1, Bool.false_or], rfl⟩
  · rw [h1] at c1
    refine Qe Tryz.func91 rfl Tryz.call91 Tryz.ntmps91 (congrArg Array.toList Tryz.results91) (by simp) ?_
    repeat (first | ((first | (with_reducible (first | refine Qa fun K E hK hE => ?_ | refine Qo c1 ?_))); simp -implicitDefEqProofs only [Qd, Qb, Qg, OpW, QO, aop, undef, AS.ev, Qc, Qr, Qi, Qw, Qns, QnI, ↓reduceIte, Nat.reduceLT, Nat.reduceEqDiff, Qnl, Qnm, Qnq, Qno, QnA, QnE, beq_false]) | (with_reducible refine Ql ?_) | ((with_reducible refine hK _ ?_); clear hK))
    simp only [QI, Qm, Qu, upd, ↓reduceIte, Qnr, Qnv]; first | refine Qf (htake _ _) (.keep (.v _)) ⟨by rw [isW, h1, Bool.true_or], rfl⟩ | refine Qf List.take_length (.keep (.v _)) ⟨by rw [isW, h1, Bool.true_or], rfl⟩
end Go.Proofs.YtehjodmnajgdgaaGreatDoor.Ab
set_option maxRecDepth 4000
namespace Go.Proofs.YtehjodmnajgdgaaGreatDoor.Ab
open Go.Proofs Go.RowKit
theorem Qf5 (s : ByteArray) (hs : s.size ≤ 1000000) (v : Int) (h : Lib.atoiAll s.data.toList = .ok v) : Pure Tryz.prog 119 [.v (.string s)] (.tup [.i v, .v .nilIface]) :=
  QfN (vs := [.string s]) Tryz.call119 fun w => (Tryz.strconv_Atoi_ok s (by omega) v h w).mono (by
    rintro e w' ⟨rfl, hw⟩
    refine ⟨_, rfl, ?_, fun c' => QaB (.v _) (.v _)⟩
    rcases hw with rfl | ⟨t, rfl⟩
    · exact Go.RowKit.Below.refl _ _
    · exact Lib.bytesWorld_below w 5 t)
theorem QfT (s : ByteArray) : Pure Tryz.prog 115 [.v (.string s), .v (.string { data := #[32] })] (.v (.string ⟨(Lib.trimLeftB s.data.toList 32).toArray⟩)) :=
  QfN (vs := [.string s, .string ⟨#[32]⟩]) Tryz.call115 fun w => (Tryz.strings_TrimLeft_one s 32 (by decide) w).mono (by rintro e w' ⟨rfl, rfl⟩; exact ⟨_, rfl, Go.RowKit.Below.refl _ _, fun _ => .v _⟩)
end Go.Proofs.YtehjodmnajgdgaaGreatDoor.Ab
set_option maxRecDepth 4000
namespace Go.Proofs.YtehjodmnajgdgaaGreatDoor.Ab
open Go.Proofs Go.RowKit Go.Shelf
theorem Qh6 (t : ByteArray) : begV (vOf t) = true := by
  unfold begV
  rw [decide_eq_true_eq]
  have e : (vOf t).data.toList = 86 :: t.data.toList := Xk _ _
  refine ⟨?_, ?_⟩
  · rw [Lib.size_eq, e, List.length_cons]; omega
  · unfold byteAt; rw [e]; rfl
theorem Qh8 (t : ByteArray) : cutV (vOf t) = t := by
  rw [cutV, if_pos (Qh6 t)]
  refine QaU ?_
  have e : (vOf t).data.toList = 86 :: t.data.toList := Xk _ _
  rw [Lib.extract_eq, e]
  simp only [Qnu, QnC]
  rw [Lib.size_eq, e, List.length_cons, Nat.add_sub_cancel, List.take_length]
theorem QlZ {s t : ByteArray} (h : s ≠ t) : (s.toList == t.toList) = false := by
  rw [beq_eq_false_iff_ne, Lib.toList_data, Lib.toList_data]
  exact fun e => h (QaU e)
theorem Qmm (s : ByteArray) : (s.toList == s.toList) = true := by simp
def Qj8 (s : ByteArray) (k : Nat) : Prop := k ≤ 1048576 ∧ s = vOf (decN k)
def labB (n : Int) : ByteArray := if n < 0 ∨ n > 1048576 then { data := #[] } else vOf (decN n.toNat)
theorem Qmp {s : ByteArray} (hb : begV s = true) (hno : ∀ k, ¬ Qj8 s k) (n : Int) : labB n ≠ s := by
  unfold labB
  split
  · intro e
    subst e
    cases hb
  · rename_i h
    intro e
    exact hno n.toNat ⟨by omega, e.symm⟩
theorem Qjx (n : Int) (h : AH) (hG : XT h) : Xd Tryz.prog 73 [.i n] h fun o h' => o = .ret (.v (.string (labB n))) ∧ h' = h := by
  unfold labB
  split
  · rename_i hn; exact QlJ n hn h
  · obtain ⟨k, rfl⟩ : ∃ k : Nat, n = k := ⟨n.toNat, by omega⟩
    exact QeH k (by omega) h hG
theorem QiG (s : ByteArray) (hb : begV s = true) (hn : (cutV s).size ≤ 7) (v : Int) (h : AH) (H : Xd Tryz.prog 119 [.v (.string (cutV s))] h fun o h' => o = .ret (.tup [.i v, .ifc 148 .junk]) ∧ h' = h) :
    Xd Tryz.prog 94 [.v (.string s)] h fun o h' => o = .ret (.tup [.i 0, .b false]) ∧ h' = h := by
  have hsl := fun b => YB Tryz.prog 9 3 (by kernel_rfl) b
  have hnn : ∀ H, notNil Tryz.prog 63 H (.ifc 148 .junk) .nilIface = true := fun H => by kernel_rfl
  have c := Z7 s
  rw [hb] at c
  have m1 : ¬ ((cutV s).size : Int) > 7 := by omega
  refine Qe Tryz.func94 rfl Tryz.call94 Tryz.ntmps94 (congrArg Array.toList Tryz.results94) (by simp) ?_
  repeat (first | ((first | (with_reducible (first | refine Qa fun K E hK hE => ?_ | refine Qo c ?_ | refine FunW.ret (FunW.call H) ?_))); simp -implicitDefEqProofs only [Qd, Qb, Qg, OpW, QO, aop, undef, AS.ev, Qc, Qn, Qr, QG, Xz, Qi, Qw, Qns, QnI, ↓reduceIte, Nat.reduceLT, Nat.reduceEqDiff, aBin, XB, aLen, Qnl, Qnm, Qnn, Qnq, Qno, QnA, QnE, Xg, Xa, goInt, QnS, Qnt, Qnp, beq_false, hsl, m1, hnn]) | (with_reducible (first | refine Qh fun K hK => ?_ | refine Ql ?_ | refine QA ?_ | refine Qj ?_ | refine Qy ?_)) | ((with_reducible refine hK _ ?_); clear hK) | (refine Qk rfl ?_; simp only [↓reduceIte, Qnp]))
  simp -implicitDefEqProofs only [Qi, ↓reduceIte, Nat.reduceEqDiff, Qnn, Qnq, Qnr, List.mapM_cons, List.mapM_nil, Option.pure_def, Option.bind_eq_bind, QI, Qm, Qu, Qnv]
  exact Qf List.take_length (.tup rfl (Xt (.keep (.v _)) (Ys (.keep (.v _))))) ⟨rfl, rfl⟩
def Qii (h : AH) : Prop := (∃ tp p, HasG h 1 #[.iface tp p]) ∧ ∃ tp p, HasG h 2 #[.iface tp p]
theorem Qhr (c' : Cx) (v : Int) (N : Nat) : Rel c' (.tup [.i v, .ifc 148 .junk]) (.tuple #[.int .i64 v, .iface 148 (.pointer (some ⟨N, 0, none⟩))]) :=
  QaB (.v _) (.ifc _ _ _ (.junk _))
theorem QlH (s : ByteArray) (hs : s.size ≤ 1000000) (hno : ∀ v, Lib.atoiAll s.data.toList ≠ .ok v) (h : AH) (hG : Qii h) : ∃ v, Xd Tryz.prog 119 [.v (.string s)] h fun o h' => o = .ret (.tup [.i v, .ifc 148 .junk]) ∧ h' = h := by
  obtain ⟨⟨t1, p1, g1⟩, t2, p2, g2⟩ := hG
  cases ha : Lib.atoiAll s.data.toList
  · exact absurd ha (hno _)
  · refine ⟨0, Qam (vs := [.string s]) Tryz.call119 fun c hst hh => ?_⟩
    have hv : c.w.var? Tryz.prog "strconv.ErrSyntax" = some #[.iface t1 p1] := HasG.var hst (hh ▸ g1) (by kernel_rfl)
    have H : Calls Tryz.prog 119 #[.string s] c.w fun e w' => ∃ N, e = .returned (.tuple #[.int .i64 0, .iface 148 (.pointer (some ⟨N, 0, none⟩))]) ∧ c.w.heap.size ≤ N ∧ w'.heap[N]? = some (.cells #[.string ⟨#[65, 116, 111, 105]⟩, .string s, .iface t1 p1] 161 (0, 0)) ∧ Go.RowKit.Below c.w.heap.size c.w w' :=
      Any.strconv_Atoi_syntax_var Tryz.laysC172 s (by omega) ha t1 p1 c.w hv
    refine H.mono ?_
    rintro e w' ⟨N, rfl, _, _, hb⟩
    exact ⟨_, rfl, hb, fun c' => Qhr c' _ N⟩
  · refine ⟨Lib.atoiSat s.data.toList, Qam (vs := [.string s]) Tryz.call119 fun c hst hh => ?_⟩
    have hv : c.w.var? Tryz.prog "strconv.ErrRange" = some #[.iface t2 p2] := HasG.var hst (hh ▸ g2) (by kernel_rfl)
    have H : Calls Tryz.prog 119 #[.string s] c.w fun e w' => ∃ N, e = .returned (.tuple #[.int .i64 (Lib.atoiSat s.data.toList), .iface 148 (.pointer (some ⟨N, 0, none⟩))]) ∧ c.w.heap.size ≤ N ∧ w'.heap[N]? = some (.cells #[.string ⟨#[65, 116, 111, 105]⟩, .string s, .iface t2 p2] 161 (0, 0)) ∧ Go.RowKit.Below c.w.heap.size c.w w' :=
      Any.strconv_Atoi_range_var Tryz.laysC172 s (by omega) ha t2 p2 c.w hv
    refine H.mono ?_
    rintro e w' ⟨N, rfl, _, _, hb⟩
    exact ⟨_, rfl, hb, fun c' => Qhr c' _ N⟩
theorem Qlq (s : ByteArray) (hs : s.size ≤ 1000000) (ha : Lib.atoiAll s.data.toList = .range) (h : AH) (hG : Qii h) : Xd Tryz.prog 119 [.v (.string s)] h fun o h' => o = .ret (.tup [.i (Lib.atoiSat s.data.toList), .ifc 148 .junk]) ∧ h' = h := by
  obtain ⟨⟨t1, p1, g1⟩, t2, p2, g2⟩ := hG
  refine Qam (vs := [.string s]) Tryz.call119 fun c hst hh => ?_
  have hv : c.w.var? Tryz.prog "strconv.ErrRange" = some #[.iface t2 p2] := HasG.var hst (hh ▸ g2) (by kernel_rfl)
  have H : Calls Tryz.prog 119 #[.string s] c.w fun e w' => ∃ N, e = .returned (.tuple #[.int .i64 (Lib.atoiSat s.data.toList), .iface 148 (.pointer (some ⟨N, 0, none⟩))]) ∧ c.w.heap.size ≤ N ∧ w'.heap[N]? = some (.cells #[.string ⟨#[65, 116, 111, 105]⟩, .string s, .iface t2 p2] 161 (0, 0)) ∧ Go.RowKit.Below c.w.heap.size c.w w' :=
    Any.strconv_Atoi_range_var Tryz.laysC172 s (by omega) ha t2 p2 c.w hv
  refine H.mono ?_
  rintro e w' ⟨N, rfl, _, _, hb⟩
  exact ⟨_, rfl, hb, fun c' => Qhr c' _ N⟩
theorem QiZ (s : ByteArray) (k : Nat) (hk : Qj8 s k) (h : AH) (hG : XT h) : Xd Tryz.prog 94 [.v (.string s)] h fun o h' => o = .ret (.tup [.i k, .b true]) ∧ h' = h := by
  obtain ⟨hk1, rfl⟩ := hk
  have hsz := Qcl hk1
  have H := Qf5 (decN k) (by omega) k (by rw [Y2]; exact Qli (by rw [Lib.decDigits_length, ← Qcm]; omega)) h
  have := QgY (vOf (decN k)) (Qh6 _) (by rw [Qh8]; omega) k h (by rw [Qh8]; exact H) _ (QeH k hk1 h hG)
  rwa [if_pos (Qmm _)] at this
theorem QhK (s : ByteArray) (hno : ∀ k, ¬ Qj8 s k) (h : AH) (hG : XT h) (hE : Qii h) : Xd Tryz.prog 94 [.v (.string s)] h fun o h' => o = .ret (.tup [.i 0, .b false]) ∧ h' = h := by
  cases hb : begV s with
  | false => exact Qgl s (.inl hb) h
  | true =>
    by_cases hn : (cutV s).size > 7
    · exact Qgl s (.inr hn) h
    · cases ha : Lib.atoiAll (cutV s).data.toList with
      | ok v =>
        have := QgY s hb (by omega) v h (Qf5 (cutV s) (by omega) v ha h) _ (Qjx v h hG)
        rwa [QlZ (Qmp hb hno v), if_neg (by simp)] at this
      | _ =>
        obtain ⟨v, H⟩ := QlH (cutV s) (by omega) (fun v e => by rw [ha] at e; cases e) h hE
        exact QiG s hb (by omega) v h H
end Go.Proofs.YtehjodmnajgdgaaGreatDoor.Ab
set_option maxRecDepth 4000
namespace Go.Proofs.YtehjodmnajgdgaaGreatDoor.Ab
open Go.Proofs Go.RowKit
end Go.Proofs.YtehjodmnajgdgaaGreatDoor.Ab
namespace Go.Proofs.YtehjodmnajgdgaaGreatDoor.Ab
theorem QaS {P : Program} {F : Fence} {n : Nat} {f : FuncId} {fn : Func} {c : Code} {args : Array Value} {u : FrameMode} {w : World} {R : Ending → World → Prop} {u2 : FrameMode}
    (hf : P.funcs[f]? = some fn) (hb : fn.body = some c) (hF : F.fn f)
    (h : ∀ (c₀ : Frame) (cs : List Frame), c₀.mode = u → c.wpSIn F n P (fun e a' cs' w' => cs' = { c₀ with mode := u2 } :: cs ∧ bodyPostM F n P fn R e a' w') { tmps := args ++ Array.replicate (fn.ntmps - args.size) undef, defers := [] } (c₀ :: cs) w) (hro : F.round = none) :
    CallsDIn F n P f args u w fun e u' w' => u' = u2 ∧ R e w' := by
  refine ⟨hF, fun c₀ cs hu hr => ?_⟩
  let b : Frame := { (default : Frame) with fn := f, kind := .deferred, roundOf := none }
  have henter : Frame.enter P f args .deferred =
      b.atR { tmps := args ++ Array.replicate (fn.ntmps - args.size) undef, defers := [] } [.code c] := by
    simp [Frame.enter, Frame.atR, hf, hb, b]
  obtain ⟨e, a', cs', w', hlen, ⟨rfl, hq⟩, harr⟩ := h c₀ cs hu b [] rfl rfl hF hr
  have hr' : F.room (({ c₀ with mode := u2 } :: cs).length + 1 + n) := hr
  rw [← henter] at harr
  cases e with
  | normal =>
    obtain ⟨e', w'', fr', hR, hs, hfn, hk, hl⟩ := YS a'.defers .returning w' { b.atR a' [] with mode := .returning } ({ c₀ with mode := u2 } :: cs) rfl rfl rfl hf rfl hF hr' hq
    exact ⟨e', u2, w'', fr', ⟨rfl, hR⟩, ComesIn.of_steps (StepsIn.trans harr (.one (fenced_calm (fr := b.atR a' []) hF hr' rfl) (stepR_end rfl))) hs, hk, hfn, hl⟩
  | ret =>
    obtain ⟨todo, hs₀⟩ := harr.1 rfl
    obtain ⟨e', w'', fr', hR, hs, hfn, hk, hl⟩ := YS a'.defers .returning w' { b.atR a' todo with mode := .returning } ({ c₀ with mode := u2 } :: cs) rfl rfl rfl hf rfl hF hr' hq
    exact ⟨e', u2, w'', fr', ⟨rfl, hR⟩, ComesIn.of_steps hs₀ hs, hk, hfn, hl⟩
  | panic chain =>
    obtain ⟨todo, hs₀⟩ := harr
    obtain ⟨e', w'', fr', hR, hs, hfn, hk, hl⟩ := YS a'.defers (.panicking chain) w' { b.atR a' todo with mode := .panicking chain } ({ c₀ with mode := u2 } :: cs) rfl rfl rfl hf rfl hF hr' hq
    exact ⟨e', u2, w'', fr', ⟨rfl, hR⟩, ComesIn.of_steps hs₀ hs, hk, hfn, hl⟩
  | exit id => exact hq.elim
  | goto l => exact hq.elim
  | outgrown => exact ⟨.outgrown, u2, w', b, ⟨rfl, hq⟩, harr.resolve_left (by simp [b]), rfl, rfl, trivial⟩
def recV : AMode → AV
  | .pan v false => v
  | _ => .v .nilIface
def recM : AMode → AMode
  | .pan v false => .pan v true
  | m => m
end Go.Proofs.YtehjodmnajgdgaaGreatDoor.Ab
namespace Go.Proofs.YtehjodmnajgdgaaGreatDoor.Ab
theorem QlN {S : Nat → Bool} : ∀ {l : List Tr} {f : AH}, (∀ t ∈ l, t.c < 2) → hS S l f = f
  | l, f, H => ZT fun t ht h2 => by have := H t ht; omega
theorem QkG {P : Program} {N : Nat} {base : Bs × Fence} {ops : Array Oper} {F : Fence} {n : Nat} (hF : WF F) {Qx : Exit → Act → World → Prop} {x : Nat} {ox : Oper} {f : Operand} {asx : Array Operand} {tys : Array TypeId} (hox : ops[x]? = some ox)
    (hop : ox.op = .call ⟨.value f, asx, tys⟩) {tr : List Tr} {tm0 : Nat → AV} {h0 : AH} (hruns : Runs P N ops tr tm0 h0) (hlow : ∀ t ∈ tr, t.c < 2) (hxt : ∀ t ∈ tr, t.i ≠ x)
    (hpw : tr.Pairwise (fun a b => clash ops a.o b.o a.c b.c = true → Anc ops a.i b.i)) (hnd : (tr.map (·.i)).Nodup) (hkind : ∀ t ∈ tr, kindOk t.o t.c = true)
    (hrd : ∀ t ∈ tr, ∀ d, t.o.dst = some d → d ∈ readsOf ops ox → Anc ops t.i x) (hall : ∀ i, i < ops.size → (∃ t ∈ tr, t.i = i) ∨ i = x ∨ Anc ops x i) (htopo : topo ops [] (tr.map (fun t => (t.i, t.c)) ++ [(x, 1)]) = true)
    (haw : Qg ops (tmS N (fun _ => true) tr tm0) ox = some true) {G : AV → AH → Prop} (H : FunW P (AS.ev ⟨tmS N (fun _ => true) tr tm0, []⟩ f) (asx.toList.map (AS.ev ⟨tmS N (fun _ => true) tr tm0, []⟩)) h0 (fun o h' => ∃ v, o = .panic v ∧ G v h')) :
    ∀ (fuel : Nat) (listed : Array Bool) (c : Cx) (a : Act), listed.size = ops.size → Down ops (fun i => listed.getD i false) → listed.getD x false = false → St c → SR N base c ⟨tmS N (fun i => listed.getD i false) tr tm0, h0⟩ a →
      tr.countP (fun t => !listed.getD t.i false) < fuel →
      (∀ tm' v h' c' a' u, G v h' → Ev c c' → St c' → SR N base c' ⟨tm', h'⟩ a' → Rel c' v u → Qx (.panic [{ v := u, recovered := false }]) a' c'.w) → wpAnyIn F n P .any ops Qx fuel listed a c.w := by
  intro fuel
  induction fuel with
  | zero => intro listed c a hsz hd hx hst hr hc hQ; omega
  | succ fuel ih =>
    intro listed c a hsz hd hx hst hr hc hQ
    refine ⟨fun h => ?_, fun i hi => ?_⟩
    · exfalso
      have := Qb0 hsz h _ [] htopo (fun i hi => by cases hi) (x, 1) (List.mem_append_right _ (by simp))
      simp only at this
      rw [hx] at this; cases this
    have hi' := hi
    obtain ⟨h1, o, ho, _⟩ := mem_ready.1 hi'
    have hlt : i < ops.size := (Array.getElem?_eq_some_iff.1 ho).1
    have hd' := QeG hsz hd hi
    by_cases hix : i = x
    · subst hix
      rw [hox] at ho; cases ho
      -- what it reads is there
      have hreads : ∀ y ∈ readsOf ops ox, tmS N (fun i => listed.getD i false) tr tm0 y = tmS N (fun _ => true) tr tm0 y := fun y hy => Zh rfl fun t ht hd => by
        have ha := hrd t ht y hd hy
        have h2 : (listed.setIfInBounds i true).getD t.i false = true := hd'.anc ha (by rw [Zl (by omega)]; simp)
        rw [Zl (by omega)] at h2
        by_cases hti : t.i = i
        · exact absurd hti (hxt t ht)
        · simpa [hti] using h2
      unfold wpOpIn
      simp only [hox]
      rw [XF hr (by rw [Qcb (tm := tmS N (fun i => listed.getD i false) tr tm0) (tm' := tmS N (fun _ => true) tr tm0) hreads]; exact haw)]
      simp only [if_true]
      have hargs : ∀ y ∈ ox.op.operands, AS.ev ⟨tmS N (fun i => listed.getD i false) tr tm0, []⟩ y = AS.ev ⟨tmS N (fun _ => true) tr tm0, []⟩ y := Qfn hreads
      refine Qbi (K := fun _ => False) (E := fun r s' => G r s'.h) ?_ hF hst hr (fun s' c' a' hs => hs.elim) ?_
      · unfold OpW
        simp only [hop]
        have hev := hargs
        rw [hop] at hev
        have h1' : AS.ev ⟨tmS N (fun i => listed.getD i false) tr tm0, h0⟩ f = AS.ev ⟨tmS N (fun _ => true) tr tm0, []⟩ f := (QbI _ _ _ _).trans (hev f (by simp [Op.operands, Call.operands]))
        have h2' : asx.toList.map (AS.ev ⟨tmS N (fun i => listed.getD i false) tr tm0, h0⟩) = asx.toList.map (AS.ev ⟨tmS N (fun _ => true) tr tm0, []⟩) := List.map_congr_left fun y hy => (QbI _ _ _ _).trans (hev y (by simp [Op.operands, Call.operands, Array.mem_def, hy]))
        rw [h1', h2']
        refine H.mono ?_
        rintro o h' ⟨v, rfl, g⟩
        exact g
      · intro r s' c' u hE hev hst' hr' hru
        obtain ⟨tm', h'⟩ := s'
        exact hQ tm' r h' c' a u hE hev hst' hr' hru
    · have hx' : (listed.setIfInBounds i true).getD x false = false := by rw [Zl (by omega), hx]; simp; exact fun e => hix e.symm
      rcases hall i hlt with ⟨t, ht, hti⟩ | h | h
      · have e0 : ∀ S, hS S tr h0 = h0 := fun S => QlN hlow
        refine QdY hF hruns hpw hnd hkind hi ht hti hsz (fun i j h hj => hd.anc h hj) (fun i j h hj => hd'.anc h hj) hst (by rw [e0]; exact hr) fun c' a' hev hst' hr' => ?_
        rw [e0] at hr'
        refine ih _ c' a' (by simpa using hsz) hd' hx' hst' hr' ?_ fun tm' v h' c2 a2 u g e2 s2 r2 ru => hQ tm' v h' c2 a2 u g (Ev.trans hst hev e2) s2 r2 ru
        have := ZE (fuel := tr.countP (fun t => !listed.getD t.i false) - 1) hsz ⟨t, ht, hti⟩ hi (by omega)
        have hpos : 0 < tr.countP (fun t => !listed.getD t.i false) := by
          rw [List.countP_pos_iff]
          refine ⟨t, ht, ?_⟩
          rw [Array.getD_eq_getD_getElem?, Array.getElem?_eq_getElem (by omega)] at h1 ⊢
          subst hti
          simpa using h1
        omega
      · exact absurd h hix
      · exfalso
        have h2 : (listed.setIfInBounds i true).getD x false = true := hd'.anc h (by rw [Zl (by omega)]; simp)
        rw [hx'] at h2; cases h2
def Qmu (ops : Array Oper) (x : Nat) (ρ : List (Nat × Nat)) : Bool :=
  decide (ρ.length < ops.size) && QeC ops (masks ops.toList []) ρ && topo ops [] (ρ ++ [(x, 1)]) && QiH (ρ.map (·.1)) && (ρ.all fun p => decide (p.2 < 2) && !(p.1 == x) && (match ops[p.1]? with | some o => kindOk o p.2 && (match ops[x]?, o.dst with | some ox, some d => !(readsOf ops ox).contains d || ((masks ops.toList []).getD x 0).testBit p.1 | _, _ => true) | none => false)) &&
  ((List.range ops.size).all fun i => (ρ.map (·.1)).contains i || i == x || ((masks ops.toList []).getD i 0).testBit x)
def callOf (o : Oper) : Option (Operand × List Operand) := match o.op with
  | .call ⟨.value f, asx, _⟩ => some (f, asx.toList)
  | _ => none
theorem Qdo {P : Program} {N : Nat} {Q : AExit → AS → Prop} {s : AS} {id : Nat} {ops : Array Oper} (x : Nat) (ρ : List (Nat × Nat)) (hm : P.follows .mixedOrders = true) {ox : Oper} {f : Operand} {asx : List Operand} (hox : ops[x]? = some ox) (hcl : callOf ox = some (f, asx)) (hgd : ox.guard = none)
    (hok : Qmu ops x ρ = true) (G : AV → AH → Prop) (hG : ∀ tm v h', G v h' → Q (.panic v) ⟨tm, h'⟩)
    (H : AnyW P N ops ρ (fun s' => s'.h = s.h → FunW P (s'.ev f) (asx.map s'.ev) s'.h (fun o h' => ∃ v, o = .panic v ∧ G v h')) s) : Yl P N (.region id ops true) Q s := by
  intro F n base c a hF hst hr R hR
  refine wpIn_region_any hm ?_
  obtain ⟨tm, hp⟩ := s
  simp only [Qmu, Bool.and_eq_true] at hok
  obtain ⟨⟨⟨⟨⟨hp0, hp1⟩, hp2⟩, hp3⟩, hp4⟩, hp5⟩ := hok
  rw [List.all_eq_true] at hp4
  have hk : (ρ.all fun p => match ops[p.1]? with | some o => kindOk o p.2 | none => false) = true := by
    rw [List.all_eq_true]
    intro p hp
    have := hp4 p hp
    simp only [Bool.and_eq_true] at this
    revert this
    cases ops[p.1]? with
    | none => simp
    | some o => simp only [Bool.and_eq_true]; exact fun h => h.2.1
  obtain ⟨tr, rfl, hruns, hK⟩ := Qai H hk
  have hev : Ev c (c.to { c.w with drawn := c.w.drawn + 1 }) := Ev.idle hst (Ev.refl c) rfl rfl rfl rfl fun k => .inl rfl
  have hst' : St (c.to { c.w with drawn := c.w.drawn + 1 }) := hst.idle rfl fun k o hk => .inl hk
  have hr' : SR N (base, F) (c.to { c.w with drawn := c.w.drawn + 1 }) ⟨tm, hp⟩ a := ⟨hr.h, hr.size, Nat.le_trans hr.above hev.size, hr.defers.ev hev, RoundOk.ev hev hr.round, fun t => (hr.tm t).ev hst hev⟩
  have hops := Qbm hruns
  have hnone : ∀ j, (Array.replicate ops.size false).getD j false = false := fun j => by
    rw [Array.getD_eq_getD_getElem?, Array.getElem?_replicate]
    split <;> rfl
  have hmk : ∀ (k i : Nat), ((masks ops.toList []).getD k 0).testBit i = true → Anc ops i k := Qac ops.toList [] (fun j o h => by simpa using h) (fun k i h => by simp at h)
  have hlow : ∀ t ∈ tr, t.c < 2 := fun t ht => by
    have := hp4 (t.i, t.c) (List.mem_map.2 ⟨t, ht, rfl⟩)
    simp only [Bool.and_eq_true, decide_eq_true_eq] at this
    exact this.1.1
  have hxt : ∀ t ∈ tr, t.i ≠ x := fun t ht => by
    have := hp4 (t.i, t.c) (List.mem_map.2 ⟨t, ht, rfl⟩)
    simp only [Bool.and_eq_true, Bool.not_eq_true', beq_eq_false_iff_ne] at this
    exact this.1.2
  have hS0 : hS (fun _ => true) tr hp = hp := QlN hlow
  rw [hS0] at hK
  obtain ⟨as', tys, hop, rfl⟩ : ∃ (as' : Array Operand) (tys : Array TypeId), ox.op = .call ⟨.value f, as', tys⟩ ∧ asx = as'.toList := by
    unfold callOf at hcl
    split at hcl
    · rename_i f' as' tys e
      simp only [Qnr, Prod.mk.injEq] at hcl
      obtain ⟨rfl, rfl⟩ := hcl
      exact ⟨_, _, e, rfl⟩
    · cases hcl
  have hF0 := hK rfl
  refine QkG (base := (base, F)) hF hox hop hruns hlow hxt (QcA hmk tr hp1 hops) ?_ ?_ ?_ ?_ hp2 ?_ (G := G) ?_ _ _ (c.to { c.w with drawn := c.w.drawn + 1 }) a (by simp) ?_ (hnone _) hst' ?_ ?_ ?_
  · have := Qbs hp3
    rw [List.map_map] at this
    exact this
  · intro t ht
    have := List.all_eq_true.1 hk (t.i, t.c) (List.mem_map.2 ⟨t, ht, rfl⟩)
    simpa [hops t ht] using this
  · intro t ht d hd hr
    have := hp4 (t.i, t.c) (List.mem_map.2 ⟨t, ht, rfl⟩)
    simp only [hops t ht, hox, hd, Bool.and_eq_true, Bool.or_eq_true, Bool.not_eq_true'] at this
    rcases this.2.2 with h | h
    · rw [List.contains_eq_mem, decide_eq_false_iff_not] at h
      exact absurd hr h
    · exact hmk _ _ h
  · intro i hi
    have := List.all_eq_true.1 hp5 i (List.mem_range.2 hi)
    simp only [Bool.or_eq_true, beq_iff_eq] at this
    rcases this with (h | h) | h
    · have h : i ∈ (tr.map fun t => (t.i, t.c)).map (·.1) := by simpa using h
      rw [List.map_map] at h
      obtain ⟨t, ht, rfl⟩ := List.mem_map.1 h
      exact .inl ⟨t, ht, rfl⟩
    · exact .inr (.inl h)
    · exact .inr (.inr (hmk _ _ h))
  · simp only [Qg, hgd]
  · rw [QbI _ hp [] f] at hF0
    have e2 : as'.toList.map (AS.ev ⟨tmS N (fun _ => true) tr tm, hp⟩) = as'.toList.map (AS.ev ⟨tmS N (fun _ => true) tr tm, []⟩) := List.map_congr_left fun y _ => QbI _ _ _ _
    rw [e2] at hF0
    exact hF0
  · intro j o ho hj
    simp only at hj
    rw [hnone] at hj; cases hj
  · have e1 : tmS N (fun i => (Array.replicate ops.size false).getD i false) tr tm = tm := funext fun x => YN fun t _ h => by rw [hnone] at h; cases h
    rw [e1]; exact hr'
  · refine Nat.lt_of_le_of_lt List.countP_le_length ?_
    have := of_decide_eq_true hp0
    simp only [List.length_map] at this; omega
  · intro tm' v h' c' a' u hg h1 h2 h3 hu
    exact hR _ _ c' a' _ (hG tm' v h' hg) (Ev.trans hst hev h1) h2 h3 ⟨u, rfl, hu⟩
end Go.Proofs.YtehjodmnajgdgaaGreatDoor.Ab
set_option maxRecDepth 4000
namespace Go.Proofs.YtehjodmnajgdgaaGreatDoor.Ab
open Go.Proofs
theorem FunW.pan {P : Program} {fv : AV} {args : List AV} {h h' : AH} {r : AV} {Q : AOut → AH → Prop} (H : FunW P fv args h fun o h2 => o = .panic r ∧ h2 = h') (k : Q (.panic r) h') : FunW P fv args h Q := H.mono (by rintro _ _ ⟨rfl, rfl⟩; exact k)
theorem FunW.panE {P : Program} {α : Type} {fv : AV} {args : List AV} {h : AH} {h' : α → AH} {r : AV} {Q : AOut → AH → Prop} (H : FunW P fv args h fun o h2 => o = .panic r ∧ ∃ x, h2 = h' x) (k : ∀ x, Q (.panic r) (h' x)) : FunW P fv args h Q := H.mono (by rintro _ _ ⟨rfl, x, rfl⟩; exact k x)
def rd (l : List UInt8) : AB := .cells 100 1 [.v (.string (mkB l))]
theorem Xr (l : List UInt8) : (mkB l).size = l.length := by show l.toArray.size = _; simp
theorem Z1 (l : List UInt8) : (mkB l).data.toList = l := by simp [mkB]
theorem QdJ (s : ByteArray) : mkB s.data.toList = s := QaU (by rw [Z1])
theorem QeM (l : List UInt8) (a b : Nat) : (mkB l).extract a b = mkB ((l.take b).drop a) := by
  refine QaU ?_
  rw [Z1, Lib.extract_eq, Z1]
  simp [List.drop_take]
theorem QlC (c : UInt8) (r : List UInt8) : (mkB (c :: r)).extract 1 (mkB (c :: r)).size = mkB r := by
  rw [QeM, Xr, List.take_length]; rfl
theorem Qbo (l : List UInt8) (i : Nat) (h : i < l.length) : byteAt (mkB l) i = ((l[i]).toNat : Nat) := by
  unfold byteAt; rw [Z1, List.getD_eq_getElem?_getD, List.getElem?_eq_getElem h]; rfl
theorem QfU (l : List UInt8) : ((mkB l).toList == ({ data := #[] } : ByteArray).toList) = decide (l = []) := by
  rw [Lib.toList_data, Lib.toList_data, Z1]
  cases l <;> rfl
theorem Qjo (l : List UInt8) : Lib.trimLeftB l 32 = skipSp l := by
  unfold Lib.trimLeftB
  induction l with
  | nil => rfl
  | cons c r ih =>
    rw [List.dropWhile_cons, skipSp]
    by_cases h : c.toNat = 32
    · have : c = 32 := UInt8.toNat_inj.1 (by simpa using h)
      subst this
      simpa using ih
    · have : (c == 32) = false := by
        rw [beq_eq_false_iff_ne]; rintro rfl; exact h rfl
      rw [this, if_neg h]; rfl
theorem Qjp (l : List UInt8) : Pure Tryz.prog 115 [.v (.string (mkB l)), .v (.string { data := #[32] })] (.v (.string (mkB (skipSp l)))) := by
  have := QfT (mkB l)
  rw [Z1, Qjo] at this
  exact this
def Tabs (h : AH) : Prop := XT h ∧ Qii h
theorem Tabs.app {h : AH} (H : Tabs h) (L : AH) : Tabs (h ++ L) := ⟨H.1.app L, let ⟨⟨a, b, c⟩, d, e, f⟩ := H.2; ⟨⟨a, b, c.app L⟩, d, e, f.app L⟩⟩
theorem HasG.chg {h : AH} {i g : Nat} {cs : Array Value} {x y : AB} (hi : i < h.length) (hx : ∀ a b c d, x ≠ .glob a b c d) (H : HasG (hs h i x) g cs) : HasG (hs h i y) g cs := by
  obtain ⟨k, ty, fr, e⟩ := H
  refine ⟨k, ty, fr, ?_⟩
  by_cases h1 : i = k
  · subst h1; rw [Qkm hi] at e; injection e with e; exact absurd e (hx _ _ _ _)
  · rw [hs, List.getElem?_set_ne h1] at e ⊢; exact e
theorem Tabs.chg {h : AH} {i : Nat} {x y : AB} (hi : i < h.length) (hx : ∀ a b c d, x ≠ .glob a b c d) (H : Tabs (hs h i x)) : Tabs (hs h i y) := ⟨HasG.chg hi hx H.1, let ⟨⟨a, b, c⟩, d, e, f⟩ := H.2; ⟨⟨a, b, c.chg hi hx⟩, d, e, f.chg hi hx⟩⟩
theorem Tabs.rds {h : AH} {i : Nat} {l : List UInt8} (hi : i < h.length) (H : Tabs (hs h i (rd l))) (r : List UInt8) : Tabs (hs h i (rd r)) := H.chg hi (fun _ _ _ _ e => by cases e)
theorem Keep.hasG {h hx : AH} {g : Nat} {cs : Array Value} (k : Keep h hx) (H : HasG h g cs) : HasG hx g cs := by
  obtain ⟨i, ty, fr, e⟩ := H
  exact ⟨i, ty, fr, k i _ e (fun _ _ _ e => by cases e)⟩
theorem Keep.tabs {h hx : AH} (k : Keep h hx) (H : Tabs h) : Tabs hx := ⟨k.hasG H.1, let ⟨⟨a, b, c⟩, d, e, f⟩ := H.2; ⟨⟨a, b, k.hasG c⟩, d, e, k.hasG f⟩⟩
theorem Zt {P : Program} {N : Nat} {f : FuncId} {args : List AV} {s : AS} {d : Option Tmp} {K : AS → Prop} {r : AV} (H : ∀ hx, Keep s.h hx → Xd P f args hx fun o h' => o = .ret r ∧ h' = hx) (k : K (AS.put N s d r)) : Qma P N (.fn (.func f) [] []) args s d K := ⟨r, fun hx hk => FunW.call (H hx hk), k⟩
theorem Y5 (n : Nat) (l : List UInt8) : (rd l).Below n := by
  intro a ha
  have : a = .v (.string (mkB l)) := by simpa [flat, QU] using ha
  subst this; exact .v _
end Go.Proofs.YtehjodmnajgdgaaGreatDoor.Ab
set_option maxRecDepth 4000
namespace Go.Proofs.YtehjodmnajgdgaaGreatDoor.Ab
open Go.Proofs
section
variable {h : AH} {i : Nat} (hi : i < h.length)
include hi
theorem QlU (l : List UInt8) : (hs h i (rd l))[i]? = some (.cells 100 1 [.v (.string (mkB l))]) := Qkm hi _
theorem Z5 (l : List UInt8) (L : AH) : (hs h i (rd l) ++ L)[i]? = some (.cells 100 1 [.v (.string (mkB l))]) := Qei hi _ L
theorem QcL (l r : List UInt8) (L : AH) : (hs h i (rd l) ++ L).set i (.cells 100 1 [.v (.string (mkB r))]) = hs h i (rd r) ++ L := QeD hi (rd l) (rd r) L
end
theorem QcO {h : AH} {i : Nat} (hi : i < h.length) (l : List UInt8) (L : AH) : Xd Tryz.prog 85 [.ptr i 0 0] (hs h i (rd l) ++ L) fun o h' => o = .ret (.tup []) ∧ h' = hs h i (rd (skipSp l)) ++ L := by
  have f2 := Z5 hi
  have f3 := QcL hi
  have c1 := Qjp l
  refine Qe Tryz.func85 rfl Tryz.call85 Tryz.ntmps85 (congrArg Array.toList Tryz.results85) (by simp) ?_
  repeat (first | ((first | (with_reducible (first | refine Qs fun K E hK hE => ?_ | refine Qo c1 ?_))); simp -implicitDefEqProofs only [Qd, Qb, Qg, OpW, QO, aop, undef, AS.ev, Qc, QV, QG, Qi, Qw, Qns, AV.QmP, QU, Xp, QnF, QnG, Qt, QnH, ↓reduceIte, Qny, Qnz, Nat.reduceLT, Nat.reduceEqDiff, Qnx, QnK, QnT, Qp, QK, QL, Q5, QW, Qnl, QnP, Qnn, QnA, QnE, ti9, XS, QX, f2, f3]) | ((with_reducible refine hK _ ?_); clear hK))
  simp -implicitDefEqProofs only [Qnn, Qnr, List.mapM_nil, Option.pure_def, Qnn, QI, Qm, Qnv]
  exact .inr ⟨rfl, rfl⟩
def nx (l : List UInt8) : Nat := match skipSp l with
  | [] => 0
  | c :: _ => c.toNat
theorem Qcw {h : AH} {i : Nat} (hi : i < h.length) (l : List UInt8) (L : AH) : Xd Tryz.prog 53 [.ptr i 0 0] (hs h i (rd l) ++ L) fun o h' => o = .ret (.v (.int .u8 (nx l : Nat))) ∧ h' = hs h i (rd (skipSp l)) ++ L := by
  have f2 := Z5 hi
  have c1 := QcO hi l L
  have hz := QfU (skipSp l)
  unfold nx
  cases hsk : skipSp l with
  | nil =>
    rw [hsk] at c1 hz
    rw [decide_eq_true rfl] at hz
    refine Qe Tryz.func53 rfl Tryz.call53 Tryz.ntmps53 (congrArg Array.toList Tryz.results53) (by simp) ?_
    repeat (first | ((first | (with_reducible (first | refine Qa fun K E hK hE => ?_ | refine FunW.ret (FunW.call c1) ?_))); simp -implicitDefEqProofs only [Qd, Qb, Qg, OpW, QO, aop, undef, AS.ev, Qc, Qn, QG, Qi, Qw, Qns, QU, ↓reduceIte, Nat.reduceLT, Nat.reduceEqDiff, QnK, Qp, QK, QL, aBin, Qnl, Qnn, QnA, QnE, QY, ti9, XS, QX, f2, hz]) | (with_reducible (first | refine Qh fun K hK => ?_ | refine Ql ?_ | refine Qy ?_)) | ((with_reducible refine hK _ ?_); clear hK) | (refine Qk rfl ?_; simp only [↓reduceIte]))
    simp -implicitDefEqProofs only [Qi, ↓reduceIte, Qnr, Qn7, QI, Qm, Qu, Qnv]
    exact .inr ⟨rfl, rfl⟩
  | cons c r =>
    rw [hsk] at c1 hz
    rw [decide_eq_false (by simp)] at hz
    have hix := ZD Tryz.prog 9 (by kernel_rfl) (mkB (c :: r)) (by rw [Xr]; simp)
    rw [Qbo _ 0 (by simp)] at hix
    refine Qe Tryz.func53 rfl Tryz.call53 Tryz.ntmps53 (congrArg Array.toList Tryz.results53) (by simp) ?_
    repeat (first | ((first | (with_reducible (first | refine Qa fun K E hK hE => ?_ | refine FunW.ret (FunW.call c1) ?_))); simp -implicitDefEqProofs only [Qd, Qb, Qg, OpW, QO, aop, undef, AS.ev, Qc, Qn, QG, Qi, Qw, Qns, QU, ↓reduceIte, Nat.reduceLT, Nat.reduceEqDiff, QnK, Qp, QK, QL, aBin, Qnl, Qnn, QnA, QnE, QY, ti9, XS, QX, f2, hz, hix]) | (with_reducible (first | refine Qh fun K hK => ?_ | refine Ql ?_ | refine QA ?_ | refine Qj ?_)) | ((with_reducible refine hK _ ?_); clear hK) | (refine Qk rfl ?_; simp only [↓reduceIte, Qnp]))
    simp -implicitDefEqProofs only [Qi, ↓reduceIte, Qnr, QI, Qm, Qu, Qnv]
    exact .inr ⟨rfl, rfl⟩
end Go.Proofs.YtehjodmnajgdgaaGreatDoor.Ab
set_option maxRecDepth 4000
namespace Go.Proofs.YtehjodmnajgdgaaGreatDoor.Ab
open Go.Proofs
theorem QlD (c : UInt8) (r : List UInt8) : pv Tryz.prog (Instr.sliceAt 9 (.string (mkB (c :: r))) (some (.int .i64 1)) none none) = some (.string (mkB r)) := by
  have := QdR Tryz.prog 9 (by kernel_rfl) (mkB (c :: r)) 1 (by rw [Xr]; simp)
  rw [QlC] at this
  exact this
theorem QdL {h : AH} {i : Nat} (hi : i < h.length) {l r : List UInt8} {c : UInt8} (hs0 : skipSp l = c :: r) {k : Int} (hk : ((c.toNat : Nat) : Int) = k) (L : AH) : Xd Tryz.prog 120 [.ptr i 0 0, .v (.int .u8 k)] (hs h i (rd l) ++ L) fun o h' => o = .ret (.b true) ∧ h' = hs h i (rd r) ++ L := by
  have f2 := Z5 hi
  have f3 := QcL hi
  have c1 := Qcw hi l L
  have e1 : nx l = c.toNat := by rw [nx, hs0]
  rw [e1, hs0, hk] at c1
  have e2 : (k != k) = false := by simp
  have hp := QlD c r
  refine Qe Tryz.func120 rfl Tryz.call120 Tryz.ntmps120 (congrArg Array.toList Tryz.results120) (by simp) ?_
  repeat (first | ((first | (with_reducible (first | refine Qa fun K E hK hE => ?_ | refine FunW.ret (FunW.call c1) ?_))); simp -implicitDefEqProofs only [Qd, Qb, Qg, OpW, QO, aop, undef, AS.ev, Qc, QV, Qn, Qr, Qi, Qw, Qns, QnL, AV.QmP, QU, Xp, QnF, QnG, Qt, QnH, ↓reduceIte, Qny, Qnz, Nat.reduceLT, Nat.reduceEqDiff, Qnx, QnK, QnT, Qp, QK, QL, Q5, QW, aBin, Yx, Qnl, QnP, Qnn, Qn0, QnA, QnE, Xh, Qn6, ti9, ei9, XS, QX, f2, f3, hp]) | (with_reducible (first | refine Qh fun K hK => ?_ | refine Ql ?_ | refine QA ?_ | refine Qj ?_)) | ((with_reducible refine hK _ ?_); clear hK) | (refine Qk rfl ?_; simp only [↓reduceIte, Qnp]))
  simp -implicitDefEqProofs only [Qi, ↓reduceIte, Qnr, QI, Qm, Qu, Qnv]
  exact .inr ⟨rfl, rfl⟩
theorem Qbg {h : AH} {i : Nat} (hi : i < h.length) {l : List UInt8} {k : Int} (hn : (nx l : Int) ≠ k) (L : AH) : Xd Tryz.prog 120 [.ptr i 0 0, .v (.int .u8 k)] (hs h i (rd l) ++ L) fun o h' => o = .ret (.b false) ∧ h' = hs h i (rd (skipSp l)) ++ L := by
  have f2 := Z5 hi
  have c1 := Qcw hi l L
  have e2 : (((nx l : Nat) : Int) != k) = true := by simpa using hn
  refine Qe Tryz.func120 rfl Tryz.call120 Tryz.ntmps120 (congrArg Array.toList Tryz.results120) (by simp) ?_
  repeat (first | ((first | (with_reducible (first | refine Qa fun K E hK hE => ?_ | refine FunW.ret (FunW.call c1) ?_))); simp -implicitDefEqProofs only [Qd, Qb, Qg, OpW, QO, aop, undef, AS.ev, Qc, Qr, Qi, Qw, Qns, QnL, ↓reduceIte, Nat.reduceLT, Nat.reduceEqDiff, aBin, Qnn, QnA, QnE, Xh, e2]) | (with_reducible (first | refine Qh fun K hK => ?_ | refine Ql ?_ | refine Qy ?_)) | ((with_reducible refine hK _ ?_); clear hK) | (refine Qk rfl ?_; simp only [↓reduceIte]))
  simp -implicitDefEqProofs only [Qi, ↓reduceIte, Qnr, QI, Qm, Qu, Qnv]
  exact .inr ⟨rfl, rfl⟩
theorem QlY {p : UInt8 → Bool} : ∀ {l : List UInt8} {k : Nat} (hk : k < l.length), k < (l.takeWhile p).length → p l[k] = true
  | [], k, hk, _ => by simp at hk
  | c :: l, k, hk, h => by
    rw [List.takeWhile_cons] at h
    cases hp : p c with
    | false => rw [hp] at h; simp at h
    | true =>
      rw [hp] at h
      cases k with
      | zero => exact hp
      | succ k =>
        simp only [List.getElem_cons_succ]
        exact QlY _ (by simpa using h)
theorem QjO {p : UInt8 → Bool} : ∀ {l : List UInt8} (hk : (l.takeWhile p).length < l.length), p l[(l.takeWhile p).length] = false
  | [], hk => by simp at hk
  | c :: l, hk => by
    cases hp : p c with
    | false =>
      have e : ((c :: l).takeWhile p) = [] := by rw [List.takeWhile_cons, hp]; rfl
      simp only [e, Qnz, List.getElem_cons_zero, hp]
    | true =>
      have e : ((c :: l).takeWhile p) = c :: l.takeWhile p := by rw [List.takeWhile_cons, hp]; rfl
      simp only [e, Qny, List.getElem_cons_succ]
      exact QjO (by rw [e] at hk; simpa using hk)
theorem QmG (p : UInt8 → Bool) (l : List UInt8) : (l.takeWhile p).length ≤ l.length := (List.takeWhile_sublist p).length_le
theorem Ql9 (p : UInt8 → Bool) (l : List UInt8) : l.take (l.takeWhile p).length = l.takeWhile p := by
  conv => lhs; rhs; rw [← List.takeWhile_append_dropWhile (p := p) (l := l)]
  exact List.take_left
theorem Qmn (p : UInt8 → Bool) (l : List UInt8) : l.drop (l.takeWhile p).length = l.dropWhile p := by
  conv => lhs; rhs; rw [← List.takeWhile_append_dropWhile (p := p) (l := l)]
  exact List.drop_left
theorem QkL {h : AH} {i : Nat} (hi : i < h.length) {g : FuncId} {p : UInt8 → Bool} (hp : ∀ c : UInt8, Pure Tryz.prog g [.v (.int .u8 (c.toNat : Nat))] (.b (p c))) (l : List UInt8) (hl : l.length ≤ 1000000) (L : AH) :
    Xd Tryz.prog 90 [.ptr i 0 0, .fn (.func g) [] []] (hs h i (rd l) ++ L) fun o h' => o = .ret (.v (.string (mkB (l.takeWhile p)))) ∧ h' = hs h i (rd (l.dropWhile p)) ++ L := by
  have f2 := Z5 hi
  have f3 := QcL hi
  have hsl := fun b => YB Tryz.prog 9 3 (by kernel_rfl) b
  have hwl := QmG p l
  have p1 : pv Tryz.prog (Instr.sliceAt 9 (.string (mkB l)) none (some (.int .i64 ((l.takeWhile p).length : Nat))) none) = some (.string (mkB (l.takeWhile p))) := by
    have := QbZ Tryz.prog 9 (by kernel_rfl) (mkB l) none (some (.i64, ((l.takeWhile p).length : Nat))) 0 (l.takeWhile p).length ⟨by omega, by rw [Xr]; omega, by omega⟩ rfl
    rw [QeM, Ql9] at this
    exact this
  have p2 : pv Tryz.prog (Instr.sliceAt 9 (.string (mkB l)) (some (.int .i64 ((l.takeWhile p).length : Nat))) none none) = some (.string (mkB (l.dropWhile p))) := by
    have := QdR Tryz.prog 9 (by kernel_rfl) (mkB l) (l.takeWhile p).length (by rw [Xr]; omega)
    rw [QeM, Xr, List.take_length, Qmn] at this
    exact this
  refine Qe Tryz.func90 rfl Tryz.call90 Tryz.ntmps90 (congrArg Array.toList Tryz.results90) (by simp) ?_
  repeat (first | (((with_reducible refine Qa fun K E hK hE => ?_)); simp -implicitDefEqProofs only [Qd, Qb, Qg, OpW, aop, AS.ev, Qc, Qn, QG, Nat.reduceLT]) | (with_reducible (first | refine Qh fun K hK => ?_ | refine Qq ?_)) | ((with_reducible refine hK _ ?_); clear hK))
  obtain ⟨I, hI⟩ : ∃ I : Nat → AS → Prop, I = fun m' s => ∃ k : Nat, m' = l.length - k ∧ k ≤ (l.takeWhile p).length ∧ s.tm 0 = .ptr i 0 0 ∧ s.tm 1 = .fn (.func g) [] [] ∧ s.tm 5 = .i k ∧ s.h = hs h i (rd l) ++ L := ⟨_, rfl⟩; refine XM I ?_ (m := l.length) ?_
  · intro m' s hs; rw [hI] at hs; obtain ⟨tm, hp⟩ := s; dsimp only at hs; obtain ⟨k, rfl, hk, t0, t1, t5, rfl⟩ := hs
    by_cases hlt : k < l.length
    · have hix := Qcz Tryz.prog 9 (by kernel_rfl) (mkB l) k (by rw [Xr]; exact hlt)
      rw [Qbo _ k hlt] at hix
      have z1 : (k : Int) < l.length := by omega
      have c1 := hp l[k]
      by_cases hw : k < (l.takeWhile p).length
      · rw [QlY hlt hw] at c1
        repeat (first | ((first | (with_reducible (first | refine Qa fun K E hK hE => ?_ | refine Qs fun K E hK hE => ?_ | refine Qo c1 ?_))); simp -implicitDefEqProofs only [Qd, Qb, Qg, OpW, QO, aop, AS.ev, Qc, Qn, Qi, QU, ↓reduceIte, Nat.reduceLT, Nat.reduceEqDiff, QnK, Qp, QK, QL, aBin, aLen, Qnl, Qnm, Qnn, Qnq, Qno, QnA, QnE, Q0, X8, goInt, QnR, Qnt, ti9, XS, QX, t0, t1, t5, f2, hsl, Xr, z1, hix]) | (with_reducible (first | refine Qh fun K hK => ?_ | refine Qq ?_ | refine QA ?_ | refine Qj ?_ | refine QD ?_)) | ((with_reducible refine hK _ ?_); clear hK) | (refine Qk rfl ?_; simp only [↓reduceIte]))
        refine Yr.mk (m' := l.length - (k + 1)) (by omega) ?_
        rw [hI]
        refine ⟨k + 1, rfl, by omega, t0, t1, ?_, rfl⟩
        simp only [upd, ↓reduceIte]
        rw [Yd (by omega)]
      · obtain rfl : k = (l.takeWhile p).length := by omega
        rw [QjO hlt] at c1
        repeat (first | ((first | (with_reducible (first | refine Qa fun K E hK hE => ?_ | refine Qo c1 ?_))); simp -implicitDefEqProofs only [Qd, Qb, Qg, OpW, QO, aop, undef, AS.ev, Qc, QV, Qi, AV.QmP, QU, Xp, QnF, QnG, Qt, QnH, ↓reduceIte, Qny, Qnz, Nat.reduceLT, Nat.reduceEqDiff, Qnx, QnK, QnT, Qp, QK, QL, Q5, QW, aBin, Yx, aLen, Qnl, Qnm, QnP, Qnn, Qn0, Qnq, Qno, QnA, QnE, Q0, goInt, QnR, Qnt, ti9, ei9, XS, QX, t0, t1, t5, f2, f3, hsl, Xr, z1, hix, p1, p2]) | (with_reducible (first | refine Qh fun K hK => ?_ | refine Ql ?_ | refine Xj ?_ | refine Qj ?_ | refine Q9 ?_ | refine Q8 ?_)) | ((with_reducible refine hK _ ?_); clear hK) | (clear hK; (with_reducible refine hK _ ?_); clear hK) | (refine Qk rfl ?_; simp only [↓reduceIte, Qnp]))
        simp -implicitDefEqProofs only [Qi, ↓reduceIte, Qnr, QI, Qm, Qu, Qnv]
        exact .inr ⟨rfl, rfl⟩
    · have z1 : ¬ (k : Int) < l.length := by omega
      obtain rfl : k = (l.takeWhile p).length := by omega
      repeat (first | (((with_reducible refine Qa fun K E hK hE => ?_)); simp -implicitDefEqProofs only [Qd, Qb, Qg, OpW, aop, undef, AS.ev, Qc, QV, Qr, Qi, AV.QmP, QU, Xp, QnF, QnG, Qt, QnH, ↓reduceIte, Qny, Qnz, Nat.reduceLT, Nat.reduceEqDiff, Qnx, QnK, QnT, Qp, QK, QL, Q5, QW, aBin, Yx, aLen, Qnl, Qnm, QnP, Qnn, Qn0, Qnq, Qno, Q0, goInt, QnS, Qnp, beq_true, ti9, ei9, XS, QX, t0, t5, f2, f3, hsl, Xr, z1, p1, p2]) | (with_reducible (first | refine Qh fun K hK => ?_ | refine Ql ?_ | refine Xj ?_ | refine Qj ?_ | refine Q9 ?_ | refine Q8 ?_)) | ((with_reducible refine hK _ ?_); clear hK) | (clear hK; (with_reducible refine hK _ ?_); clear hK) | (refine Qk rfl ?_; simp only [↓reduceIte, Qnp]))
      simp -implicitDefEqProofs only [Qi, ↓reduceIte, Qnr, QI, Qm, Qu, Qnv]
      exact .inr ⟨rfl, rfl⟩
  · rw [hI]
    exact ⟨0, rfl, Nat.zero_le _, rfl, rfl, rfl, rfl⟩
end Go.Proofs.YtehjodmnajgdgaaGreatDoor.Ab
set_option maxRecDepth 4000
namespace Go.Proofs.YtehjodmnajgdgaaGreatDoor.Ab
open Go.Proofs
theorem QjB (i : Int) : Pure Tryz.prog 95 [.i i] (T.mk 1 i eB []).av := by
  intro h
  refine Qe Tryz.func95 rfl Tryz.call95 Tryz.ntmps95 (congrArg Array.toList Tryz.results95) (by simp) ?_
  repeat (first | (((with_reducible refine Qa fun K E hK hE => ?_)); simp -implicitDefEqProofs only [Qd, Qb, Qg, OpW, aop, undef, AS.ev, Qc, QV, Qn, Qi, Qw, Qns, AV.QmP, QB, QU, QJ, QnF, QnG, Qv, Qt, QM, QnH, ↓reduceIte, Qny, Qnz, Nat.reduceAdd, Nat.reduceLT, Nat.reduceLeDiff, Nat.reduceEqDiff, Qnx, QnT, Q5, QW, X4, Yj, QT, YQ, Qnl, Qnm, QnP, Qnn, QnA, QnE, QnN, QnM, Qnw, QnD, Qnu, QnC, ti24, zi24, sp24]) | (with_reducible refine Ql ?_) | ((with_reducible refine hK _ ?_); clear hK))
  simp -implicitDefEqProofs only [Qi, QB, QJ, ↓reduceIte, Qny, Qnz, Nat.reduceAdd, Nat.reduceEqDiff, Qnx, QnT, QT, Qnl, Qnr, ti24, QK, QL, QT, QI, Qm, Qu, Qnv]
  refine Qf (r' := (T.mk 1 i eB []).av) (htake _ _) ?_ ⟨rfl, rfl⟩
  exact .agg rfl (Xt (.keep (.v _)) (Xt (.keep (.v _)) (Xt (.keep (.v _)) (Ys (.nil 4)))))
theorem QgF (i : Int) : Pure Tryz.prog 148 [.i i] (T.mk 0 i eB []).av := by
  intro h
  refine Qe Tryz.func148 rfl Tryz.call148 Tryz.ntmps148 (congrArg Array.toList Tryz.results148) (by simp) ?_
  repeat (first | (((with_reducible refine Qa fun K E hK hE => ?_)); simp -implicitDefEqProofs only [Qd, Qb, Qg, OpW, aop, undef, AS.ev, Qc, QV, Qn, Qi, Qw, Qns, AV.QmP, QB, QU, QJ, QnF, QnG, Qv, Qt, QM, QnH, ↓reduceIte, Qny, Qnz, Nat.reduceAdd, Nat.reduceLT, Nat.reduceLeDiff, Nat.reduceEqDiff, Qnx, QnT, Q5, QW, X4, Yj, QT, YQ, Qnl, Qnm, QnP, Qnn, QnA, QnE, QnN, QnM, Qnw, QnD, Qnu, QnC, ti24, zi24, sp24]) | (with_reducible refine Ql ?_) | ((with_reducible refine hK _ ?_); clear hK))
  simp -implicitDefEqProofs only [Qi, QB, QJ, ↓reduceIte, Qny, Qnz, Nat.reduceAdd, Nat.reduceEqDiff, Qnx, QnT, QT, Qnl, Qnr, ti24, QK, QL, QT, QI, Qm, Qu, Qnv]
  refine Qf (r' := (T.mk 0 i eB []).av) (htake _ _) ?_ ⟨rfl, rfl⟩
  exact .agg rfl (Xt (.keep (.v _)) (Xt (.keep (.v _)) (Xt (.keep (.v _)) (Ys (.nil 4)))))
theorem Qke : ∀ (l : List UInt8) (a : Nat), a ≤ l.foldl (fun n c => 10 * n + (c.toNat - 48)) a
  | [], a => Nat.le_refl _
  | c :: l, a => by
    rw [List.foldl_cons]
    exact Nat.le_trans (by omega) (Qke l _)
theorem Qgc : ∀ (l : List UInt8) (a : Nat), (∀ c ∈ l, isD c = true) → Lib.parseUint10 a l = .ok (l.foldl (fun n c => 10 * n + (c.toNat - 48)) a) ∨ (Lib.parseUint10 a l = .range ∧ 18446744073709551616 ≤ l.foldl (fun n c => 10 * n + (c.toNat - 48)) a)
  | [], a, _ => .inl rfl
  | c :: l, a, h => by
    have hc : isD c = true := h c (by simp)
    simp only [isD, decide_eq_true_eq] at hc
    rw [Lib.parseUint10, if_pos hc, List.foldl_cons]
    have hg := Qke l (10 * a + (c.toNat - 48))
    by_cases h1 : 1844674407370955162 ≤ a
    · rw [if_pos h1]; exact .inr ⟨rfl, by omega⟩
    · rw [if_neg h1]
      by_cases h2 : 18446744073709551616 ≤ a * 10 + (c.toNat - 48)
      · rw [if_pos h2]; exact .inr ⟨rfl, by omega⟩
      · rw [if_neg h2, show a * 10 + (c.toNat - 48) = 10 * a + (c.toNat - 48) by omega]
        exact Qgc l _ fun d hd => h d (by simp [hd])
theorem QlE {l : List UInt8} (hne : l ≠ []) (h : ∀ c ∈ l, isD c = true) : (Lib.atoiAll l = .ok (ZX l : Nat) ∧ ZX l < 9223372036854775808) ∨ (Lib.atoiAll l = .range ∧ 9223372036854775808 ≤ ZX l) := by
  match l, hne with
  | c :: r, _ =>
    have hc : isD c = true := h c (by simp)
    simp only [isD, decide_eq_true_eq] at hc
    rw [Lib.atoiAll_plain c r (by omega) (by omega), Lib.parseMag, if_neg (by simp)]
    rcases Qgc (c :: r) 0 h with e | ⟨e, hb⟩
    · rw [e]
      simp only [Lib.signless]
      by_cases hb : 9223372036854775808 ≤ ZX (c :: r)
      · exact .inr ⟨if_pos hb, hb⟩
      · exact .inl ⟨if_neg hb, by omega⟩
    · rw [e]
      exact .inr ⟨rfl, by unfold ZX; omega⟩
theorem Qmt (p : UInt8 → Bool) (l : List UInt8) : ∀ c ∈ l.takeWhile p, p c = true := fun c hc => by
  induction l with
  | nil => cases hc
  | cons d l ih =>
    rw [List.takeWhile_cons] at hc
    cases hp : p d with
    | false => rw [hp] at hc; cases hc
    | true =>
      rw [hp] at hc
      rcases List.mem_cons.1 hc with rfl | hc
      · exact hp
      · exact ih hc
def RQ (h : AH) (i : Nat) : Res T → AOut → AH → Prop
  | .ok t r, o, h' => o = .ret t.av ∧ h' = hs h i (rd r)
  | .err e, o, h' => o = .panic (Err e) ∧ ∃ r, h' = hs h i (rd r)
theorem QhC (xo : Operand) : pv Tryz.prog (do eqGuard .eql 63 xo (.const .nilIface) .nilIface .nilIface; binOp .eql 63 .nilIface .nilIface) = some (.bool true) := by
  cases xo <;> kernel_rfl
theorem Qga (n : Nat) (t : T) : Below n t.av := t.Qm0 n
theorem Qda (sign : Int) (hsg : sign = 1 ∨ sign = -1) (l : List UInt8) (hd : headD l = true) (hl : l.length ≤ 1000000) {h : AH} {i : Nat} (hi : i < h.length) (hT : Tabs (hs h i (rd l))) :
    Xd Tryz.prog 133 [.ptr i 0 0, .i sign] (hs h i (rd l)) (RQ h i (pInt false sign l)) := by
  have f1 := X3 h i
  have f2 := Z5 hi
  have f2' := QlU hi
  have f3 := QcL hi
  have f4 := fun x L => ZN (h := h) (i := i) x L
  have f6 := fun x y L => ZA (h := h) (i := i) x y L
  match l, hd with
  | c :: r, hd =>
    have hd : isD c = true := hd
    have hix := ZD Tryz.prog 9 (by kernel_rfl) (mkB (c :: r)) (by rw [Xr]; simp)
    rw [Qbo _ 0 (by simp)] at hix
    rw [pInt]
    by_cases h48 : c.toNat = 48
    · have z1 : ((((c :: r)[0]).toNat : Nat) : Int) == 48 := by simp [h48]
      rw [if_pos h48]
      rcases hsg with rfl | rfl
      · rw [if_neg (by simp)]
        have cm := ZW 16
        have ci := QgF 0
        have hp := QlD c r
        have z2 : (1 : Int) > 0 := by decide
        refine Qe Tryz.func133 rfl Tryz.call133 Tryz.ntmps133 (congrArg Array.toList Tryz.results133) (by simp) ?_
        repeat (first | ((first | (with_reducible (first | refine Qa fun K E hK hE => ?_ | refine Qo cm ?_ | refine Qo ci ?_))); simp -implicitDefEqProofs only [Qd, Qb, Qg, OpW, QO, aop, undef, AS.ev, Qc, QV, Qn, Qi, Qw, Qns, QnL, AV.QmP, QB, QU, QJ, Xp, QnF, QnG, Qv, Qt, QM, QC, QnH, ↓reduceIte, Qny, Qnz, Nat.reduceAdd, Nat.reduceLT, Nat.reduceEqDiff, Qnx, QnK, QnT, Qp, QK, QL, Q5, QW, aBin, Yx, Qnl, QnP, Qnn, Qn0, QnA, QnE, QS, Xg, QnR, T.QmN, T.QmO, ti9, ei9, ti24, zi24, XS, QX, f1, f2, f3, f4, f6, hix, z1, z2, hp]) | (with_reducible (first | refine Qh fun K hK => ?_ | refine Ql ?_ | refine Qy ?_)) | ((with_reducible refine hK _ ?_); clear hK) | (refine Qk rfl ?_; simp only [↓reduceIte]))
        simp -implicitDefEqProofs only [Qi, ↓reduceIte, Qny, Qnz, Nat.reduceAdd, Nat.reduceEqDiff, Qnx, QnT, QK, QL, Qnl, Qnr, T.QmN, T.QmO, ti24, f4, QI, Qm, Qu, Qnv]
        exact Xc (Y5 _ _) (.keep (Qga _ _)) ⟨rfl, rfl⟩
      · rw [if_pos (by simp)]
        have cm := fun h => QbO 16 h
        have z2 : ¬ (-1 : Int) > 0 := by decide
        refine Qe Tryz.func133 rfl Tryz.call133 Tryz.ntmps133 (congrArg Array.toList Tryz.results133) (by simp) ?_
        repeat (first | ((first | (with_reducible (first | refine Qa fun K E hK hE => ?_ | refine FunW.pan (FunW.call (cm _)) ?_))); simp -implicitDefEqProofs only [Qd, Qb, Qg, OpW, QO, aop, undef, AS.ev, Qc, Qn, Qi, Qw, Qns, QnL, AV.QmP, QB, QU, QnF, QnG, Qv, Qt, QM, QnH, ↓reduceIte, Qny, Qnz, Nat.reduceAdd, Nat.reduceLT, Nat.reduceEqDiff, Qnx, QnK, Qp, QK, QL, aBin, Qnl, Qnn, QnA, QnE, QS, Xg, QnS, ti9, zi24, XS, QX, f1, f2, hix, z1, z2]) | (with_reducible refine Qh fun K hK => ?_) | ((with_reducible refine hK _ ?_); clear hK) | (refine Qk rfl ?_; simp only [↓reduceIte]) | (with_reducible (first | refine hE _ _ ?_ | refine XN ?_)))
        exact Xc (Y5 _ _) (.keep (Qar _ _)) ⟨rfl, _, rfl⟩
    · have z1 : (((((c :: r)[0]).toNat : Nat) : Int) == 48) = false := by simp; omega
      rw [if_neg h48]
      have hT' := fun L => (hT.rds hi ((c :: r).dropWhile isD)).app L
      have cr := fun L => QkL hi Qas (c :: r) hl L
      have hwl := QmG isD (c :: r)
      have hds := Qmt isD (c :: r)
      have hne : (c :: r).takeWhile isD ≠ [] := by rw [List.takeWhile_cons, hd]; simp
      have hsz : (mkB ((c :: r).takeWhile isD)).size ≤ 1000000 := by rw [Xr]; omega
      have hat := QlE hne hds
      generalize hw : (c :: r).takeWhile isD = w at *
      generalize hr : (c :: r).dropWhile isD = r2 at *
      have hmul : ∀ n : Nat, n ≤ 2147483648 → IntKind.i64.wrap (sign * (n : Int)) = sign * n := fun n hn => by
        rcases hsg with rfl | rfl
        · rw [XW (by omega)]
        · rw [XW (by omega)]
      by_cases hle : ZX w ≤ 2147483648
      · rw [if_pos hle]
        rcases hat with ⟨ha, hb⟩ | ⟨ha, hb⟩
        · have ca := Qf5 (mkB w) hsz (ZX w : Nat) (by rw [Z1]; exact ha)
          have z3 : ((ZX w : Nat) : Int) ≤ 2147483648 := by omega
          have cm := ZW 5
          have ci := QgF (sign * (ZX w : Nat))
          have hw1 := hmul _ hle
          have hn := QhC
          refine Qe Tryz.func133 rfl Tryz.call133 Tryz.ntmps133 (congrArg Array.toList Tryz.results133) (by simp) ?_
          repeat (first | ((first | (with_reducible (first | refine Qa fun K E hK hE => ?_ | refine Qo cm ?_ | refine Qo ci ?_ | refine Qo ca ?_ | refine FunW.ret (FunW.call (cr _)) ?_))); simp -implicitDefEqProofs only [Qd, Qb, Qg, OpW, QO, aop, undef, AS.ev, Qc, QV, Qn, Xz, Qi, Qw, Qns, QnL, AV.QmP, QB, QU, QJ, QnF, QnG, Qv, Qt, QM, QC, QnH, ↓reduceIte, Qny, Qnz, Nat.reduceAdd, Nat.reduceLT, Nat.reduceEqDiff, Qnx, QnK, QnT, Qp, QK, QL, Q5, QW, aBin, XB, Qnl, Qnm, QnP, Qnn, Qnq, Qno, QnA, QnE, QS, Xe, Qky, QnR, Qnt, T.QmN, T.QmO, ti9, ti24, zi24, XS, QX, f1, f2, f4, f6, hix, z1, z3, hn, hw1]) | (with_reducible (first | refine Qh fun K hK => ?_ | refine Ql ?_ | refine QA ?_ | refine Qj ?_)) | ((with_reducible refine hK _ ?_); clear hK) | (refine Qk rfl ?_; simp only [↓reduceIte, Qnp]))
          simp -implicitDefEqProofs only [Qi, ↓reduceIte, Qny, Qnz, Nat.reduceAdd, Nat.reduceEqDiff, Qnx, QnT, QK, QL, Qnl, Qnr, T.QmN, T.QmO, ti24, f4, QI, Qm, Qu, Qnv]
          exact Xc (Y5 _ _) (.keep (Qga _ _)) ⟨rfl, rfl⟩
        · omega
      · rw [if_neg hle]
        have cm := fun h => QbO 5 h
        rcases hat with ⟨ha, hb⟩ | ⟨ha, hb⟩
        · have ca := Qf5 (mkB w) hsz (ZX w : Nat) (by rw [Z1]; exact ha)
          have z3 : ¬ ((ZX w : Nat) : Int) ≤ 2147483648 := by omega
          have hn := QhC
          refine Qe Tryz.func133 rfl Tryz.call133 Tryz.ntmps133 (congrArg Array.toList Tryz.results133) (by simp) ?_
          repeat (first | ((first | (with_reducible (first | refine Qa fun K E hK hE => ?_ | refine Qo ca ?_ | refine FunW.ret (FunW.call (cr _)) ?_ | refine FunW.pan (FunW.call (cm _)) ?_))); simp -implicitDefEqProofs only [Qd, Qb, Qg, OpW, QO, aop, undef, AS.ev, Qc, Qn, Xz, Qi, Qw, Qns, AV.QmP, QB, QU, QnF, QnG, Qv, Qt, QM, QnH, ↓reduceIte, Qny, Qnz, Nat.reduceAdd, Nat.reduceLT, Nat.reduceEqDiff, Qnx, QnK, Qp, QK, QL, aBin, XB, Qnl, Qnm, Qnn, Qnq, Qno, QnA, QnE, QS, Xe, QnS, Qnt, ti9, zi24, XS, QX, f1, f2, hix, z1, z3, hn]) | (with_reducible (first | refine Qh fun K hK => ?_ | refine QA ?_ | refine Qj ?_)) | ((with_reducible refine hK _ ?_); clear hK) | (refine Qk rfl ?_; simp only [↓reduceIte, Qnp]) | (with_reducible refine hE _ _ ?_))
          exact Xc (Y5 _ _) (.keep (Qar _ _)) ⟨rfl, _, rfl⟩
        · obtain ⟨v, ca⟩ : ∃ v, ∀ L, Xd Tryz.prog 119 [.v (.string (mkB w))] (hs h i (rd r2) ++ L) fun o h' => o = .ret (.tup [.i v, .ifc 148 .junk]) ∧ h' = hs h i (rd r2) ++ L :=
            ⟨Lib.atoiSat w, fun L => Qlq (mkB w) hsz (by rw [Z1]; exact ha) _ (hT' L).2⟩
          have hn : ∀ H, notNil Tryz.prog 63 H (.ifc 148 .junk) .nilIface = true := fun H => by kernel_rfl
          refine Qe Tryz.func133 rfl Tryz.call133 Tryz.ntmps133 (congrArg Array.toList Tryz.results133) (by simp) ?_
          repeat (first | ((first | (with_reducible (first | refine Qa fun K E hK hE => ?_ | refine FunW.ret (FunW.call (ca _)) ?_ | refine FunW.ret (FunW.call (cr _)) ?_ | refine FunW.pan (FunW.call (cm _)) ?_))); simp -implicitDefEqProofs only [Qd, Qb, Qg, OpW, QO, aop, undef, AS.ev, Qc, Qn, Qr, Xz, Qi, Qw, Qns, AV.QmP, QB, QU, QnF, QnG, Qv, Qt, QM, QnH, ↓reduceIte, Qny, Qnz, Nat.reduceAdd, Nat.reduceLT, Nat.reduceEqDiff, Qnx, QnK, Qp, QK, QL, aBin, XB, Qnl, Qnm, Qnn, Qnq, Qno, QnA, QnE, QS, Qnp, beq_true, ti9, zi24, XS, QX, f1, f2, hix, z1, hn]) | (with_reducible (first | refine Qh fun K hK => ?_ | refine QA ?_ | refine Qj ?_)) | ((with_reducible refine hK _ ?_); clear hK) | (refine Qk rfl ?_; simp only [↓reduceIte, Qnp]) | (with_reducible refine hE _ _ ?_))
          exact Xc (Y5 _ _) (.keep (Qar _ _)) ⟨rfl, _, rfl⟩
end Go.Proofs.YtehjodmnajgdgaaGreatDoor.Ab
set_option maxRecDepth 4000
namespace Go.Proofs.YtehjodmnajgdgaaGreatDoor.Ab
open Go.Proofs
def Rdr (f : FuncId) (g : List UInt8 → Res T) (N : Nat) : Prop := ∀ l : List UInt8, l.length < N → ∀ (h : AH) (i : Nat), i < h.length → Tabs (hs h i (rd l)) → Xd Tryz.prog f [.ptr i 0 0] (hs h i (rd l)) (RQ h i (g l))
theorem Rdr.ok {f : FuncId} {g : List UInt8 → Res T} {N : Nat} (H : Rdr f g N) {l : List UInt8} (hl : l.length < N) {h : AH} {i : Nat} (hi : i < h.length) (hT : Tabs (hs h i (rd l))) (L : AH) {t : T} {r : List UInt8} (e : g l = .ok t r) :
    Xd Tryz.prog f [.ptr i 0 0] (hs h i (rd l) ++ L) fun o h' => o = .ret t.av ∧ h' = hs h i (rd r) ++ L := by
  have := H l hl (h ++ L) i (by rw [List.length_append]; omega) (by rw [X2 hi]; exact hT.app L)
  rw [X2 hi, e] at this
  exact this.mono fun o h' q => by simpa only [RQ, X2 hi] using q
theorem Rdr.err {f : FuncId} {g : List UInt8 → Res T} {N : Nat} (H : Rdr f g N) {l : List UInt8} (hl : l.length < N) {h : AH} {i : Nat} (hi : i < h.length) (hT : Tabs (hs h i (rd l))) (L : AH) {n : Int} (e : g l = .err n) :
    Xd Tryz.prog f [.ptr i 0 0] (hs h i (rd l) ++ L) fun o h' => o = .panic (Err n) ∧ ∃ r, h' = hs h i (rd r) ++ L := by
  have := H l hl (h ++ L) i (by rw [List.length_append]; omega) (by rw [X2 hi]; exact hT.app L)
  rw [X2 hi, e] at this
  exact this.mono fun o h' q => by simpa only [RQ, X2 hi] using q
theorem FunW.meth {P : Program} {f : FuncId} {x : AV} {h : AH} {Q : AOut → AH → Prop} (H : Xd P f [x] h Q) : FunW P (.fn (.func f) [x] []) [] h Q := FunW.fn H
theorem QiE (s : ByteArray) (t u : T) : Pure Tryz.prog 96 [.v (.string s), .sl 4 [t.av, u.av] none] (T.mk 2 0 s [t, u]).av := by
  intro h
  refine Qe Tryz.func96 rfl Tryz.call96 Tryz.ntmps96 (congrArg Array.toList Tryz.results96) (by simp) ?_
  repeat (first | (((with_reducible refine Qa fun K E hK hE => ?_)); simp -implicitDefEqProofs only [Qd, Qb, Qg, OpW, aop, undef, AS.ev, Qc, QV, Qn, Qi, Qw, Qns, QnL, AV.QmP, QB, QU, Yf, QJ, QnF, QnG, Qv, Qt, QM, QC, QnH, ↓reduceIte, Qny, Qnz, Nat.reduceAdd, Nat.reduceLT, Nat.reduceLeDiff, Nat.reduceEqDiff, Qnx, QnT, Q5, QW, X4, Yj, QT, YQ, Qnl, Qnm, QnP, Qnn, QnA, QnE, QnN, QnM, QnO, Qnw, QnD, Qnu, QnC, ti24, zi24, sp24]) | (with_reducible refine Ql ?_) | ((with_reducible refine hK _ ?_); clear hK))
  simp -implicitDefEqProofs only [Qi, QB, QJ, ↓reduceIte, Qny, Qnz, Nat.reduceAdd, Nat.reduceEqDiff, Qnx, QnT, QT, Qnl, Qnr, ti24, QK, QL, QT, QI, Qm, Qu, Qnv]
  exact Qf (htake _ _) (.keep (T.Qm0 _ (T.mk 2 0 s [t, u]))) ⟨rfl, rfl⟩
theorem QmJ : pv Tryz.prog (Instr.sliceAt 9 (.string (mkB [])) none (some (.int .i64 0)) none) = some (.string (mkB [])) := by
  have := QbZ Tryz.prog 9 (by kernel_rfl) (mkB []) none (some (.i64, 0)) 0 0 ⟨by omega, by rw [Xr]; simp, by omega⟩ rfl
  rw [QeM] at this
  exact this
theorem QmL (c : UInt8) (r : List UInt8) : pv Tryz.prog (Instr.sliceAt 9 (.string (mkB (c :: r))) none (some (.int .i64 1)) none) = some (.string (mkB [c])) := by
  have := QbZ Tryz.prog 9 (by kernel_rfl) (mkB (c :: r)) none (some (.i64, 1)) 0 1 ⟨by omega, by rw [Xr]; simp; omega, by omega⟩ rfl
  rw [QeM] at this
  exact this
theorem Ql0 : ofB (mkB []) = 0 := by kernel_rfl
theorem Qe1 (h : AH) (i : Nat) (l r : List UInt8) (t : T) (L : AH) : Leaves (hs h i (rd l)) (hs h i (rd r) ++ L) t.av fun v h' => RQ h i (.ok t r) (.ret v) h' :=
  Xc (Q := fun v h' => RQ h i (.ok t r) (.ret v) h') (Y5 _ _) (.keep (T.Qm0 _ _)) ⟨rfl, rfl⟩
theorem Zv (h : AH) (i : Nat) (l r : List UInt8) (e : Int) (L : AH) : Leaves (hs h i (rd l)) (hs h i (rd r) ++ L) (Err e) fun v h' => RQ h i (.err e) (.panic v) h' :=
  Xc (Q := fun v h' => RQ h i (.err e) (.panic v) h') (Y5 _ _) (.keep (Qar _ _)) ⟨rfl, _, rfl⟩
theorem Qbj {g : FuncId} {op : List UInt8 → Res T} {N : Nat} (H : Rdr g op N) (hEat : Eats 0 op) (st : Int) (hst : st ≠ 0) (hN : N ≤ 1000000) (l : List UInt8) (hl : l.length < N) (h : AH) (i : Nat) (hi : i < h.length) (hT : Tabs (hs h i (rd l))) :
    Xd Tryz.prog 86 [.ptr i 0 0, .i st, .fn (.func g) [.ptr i 0 0] []] (hs h i (rd l)) (RQ h i (chain op st l)) := by
  have f1 := X3 h i
  have f2 := Z5 hi
  have f2' := QlU hi
  have f3 := QcL hi
  have f4 := fun x L => ZN (h := h) (i := i) x L
  have f5 := fun x L k => Qge (h := h) (i := i) x L k
  have f6 := fun x y L => ZA (h := h) (i := i) x y L
  have f7 := fun x y L k => Z9 (h := h) (i := i) x y L k
  rw [chain]
  cases hop : op l with
  | err n =>
    have c1 := fun L => H.err hl hi hT L hop
    refine Qe Tryz.func86 rfl Tryz.call86 Tryz.ntmps86 (congrArg Array.toList Tryz.results86) (by simp) ?_
    repeat (first | ((first | (with_reducible (first | refine Qa fun K E hK hE => ?_ | refine FunW.panE (FunW.meth (c1 _)) fun r => ?_))); simp -implicitDefEqProofs only [Qd, Qb, Qg, OpW, QO, aop, undef, AS.ev, Qc, Qi, Qw, Qns, QnL, AV.QmP, QB, QnF, QnG, Qv, Qt, QM, QnH, ↓reduceIte, Qny, Qnz, Nat.reduceAdd, Nat.reduceLT, Nat.reduceEqDiff, Qnx, QnE, zi24, f1]) | ((with_reducible refine hK _ ?_); clear hK) | (with_reducible refine hE _ _ ?_))
    exact Zv _ _ _ _ _ _
  | ok t r =>
    have c1 := fun L => H.ok hl hi hT L hop
    have hr := hEat l t r hop
    simp only
    generalize hC : X9 op st (r.length + 1) t r = C
    refine Qe Tryz.func86 rfl Tryz.call86 Tryz.ntmps86 (congrArg Array.toList Tryz.results86) (by simp) ?_
    repeat (first | ((first | (with_reducible (first | refine Qa fun K E hK hE => ?_ | refine FunW.ret (FunW.meth (c1 _)) ?_))); simp -implicitDefEqProofs only [Qd, Qb, Qg, OpW, QO, aop, undef, AS.ev, Qc, QV, Qi, Qw, Qns, QnL, AV.QmP, QB, QJ, QnF, QnG, Qv, Qt, QM, QC, QnH, ↓reduceIte, Qny, Qnz, Nat.reduceAdd, Nat.reduceLT, Nat.reduceEqDiff, Qnx, QnT, Q5, QW, hlen, happ, Qnl, Qnm, QnP, QnQ, Qnn, QnE, QnN, QnM, T.QmN, T.QmO, ti24, zi24, f1, f5, f7]) | (with_reducible refine Qq ?_) | ((with_reducible refine hK _ ?_); clear hK))
    have hz : (T.mk 0 0 eB []).av = .agg [.i 0, .i 0, .v (.string eB), .sl 4 [] none] := rfl
    obtain ⟨I, hI⟩ : ∃ I : Nat → AS → Prop, I = fun m' s => ∃ (t : T) (r : List UInt8), m' = r.length ∧ r.length < N ∧ X9 op st (r.length + 1) t r = C ∧ s.tm 0 = .ptr i 0 0 ∧ s.tm 1 = .i st ∧ s.tm 2 = .fn (.func g) [.ptr i 0 0] [] ∧ s.tm 6 = .ptr h.length 0 0 ∧ s.tm 7 = .ptr (h.length + 1) 0 0 ∧ s.h = hs h i (rd r) ++ [.cells 24 4 [.agg [.i 0, .i 0, .v (.string { data := #[] }), .v (.slice none 0 0)]], .cells 24 4 [t.av]] := ⟨_, rfl⟩; refine XM I ?_ (m := r.length) ?_
    · intro m' s hs; rw [hI] at hs; obtain ⟨tm, hp⟩ := s; dsimp only at hs; obtain ⟨t, r, rfl, hrN, hC, t0, t1, t2, t6, t7, rfl⟩ := hs
      have cs := QcO hi r [.cells 24 4 [.agg [.i 0, .i 0, .v (.string { data := #[] }), .v (.slice none 0 0)]], .cells 24 4 [t.av]]
      have hsl := fun b => YB Tryz.prog 9 3 (by kernel_rfl) b
      rw [X9] at hC
      cases hsk : skipSp r with
      | nil =>
        rw [hsk] at hC cs
        subst hC
        have co := QcE (mkB [])
        rw [Ql0] at co
        have z1 : ((0 : Int) != st) = true := by simpa using fun e => hst e.symm
        have hh := QmJ
        have z2 : (0 : Int) < 1 := by decide
        have z3 : (((0 : Nat) : Int) < 1) := by decide
        repeat (first | ((first | (with_reducible (first | refine Qa fun K E hK hE => ?_ | refine FunW.ret (FunW.call cs) ?_ | refine Qo co ?_)) | (refine QR (id := 3) [(0, 0), (1, 0), (2, 0), (3, 0), (4, 0), (5, 0), (6, 0), (7, 0), (8, 0), (9, 0), (10, 0), (11, 0)] mixed (by kernel_rfl) fun K hK => ?_)); simp -implicitDefEqProofs only [Q4, Q1, Xb, Qd, Qb, Qg, OpW, QO, aop, undef, AS.ev, Qc, QV, Qn, Qi, AV.QmP, QB, QU, QJ, QnF, QnG, Qv, Qt, QC, QnH, ↓reduceIte, Qny, Qnz, Nat.reduceAdd, Nat.reduceLT, Nat.reduceEqDiff, Qnx, QnK, QnT, Qp, QK, QL, Q5, QW, aBin, Yx, aLen, Qnl, Qnm, QnP, Qnn, Qn0, Qno, QnA, QnE, Xh, Qij, goInt, Qn7, T.QmN, T.QmO, ti9, ei9, ti24, XS, QX, t0, t1, t6, t7, f2, f4, f5, f6, hsl, Xr, hh, z1, z2]) | (with_reducible (first | refine Qh fun K hK => ?_ | refine Qq ?_ | refine Ql ?_ | refine Qy ?_ | refine QF ?_)) | ((with_reducible refine hK _ ?_); clear hK) | (refine Qk rfl ?_; simp only [↓reduceIte]))
        simp -implicitDefEqProofs only [Qi, ↓reduceIte, Qny, Qnz, Nat.reduceAdd, Nat.reduceEqDiff, Qnx, QnT, QK, QL, Qnl, Qnr, T.QmN, T.QmO, ti24, t6, f4, T.QmN, T.QmO, QI, Qm, Qu, Qnv]
        exact Qe1 _ _ _ _ _ _
      | cons c r2 =>
        rw [hsk] at hC cs
        simp only at hC
        have hlt := Xl hsk
        have co := QcE (mkB [c])
        have hh := QmL c r2
        have z2 : ¬ (((r2.length + 1 : Nat) : Int) < 1) := by omega
        have hp := QlD c r2
        by_cases ho : ofB (mkB [c]) = st
        · rw [if_pos ho] at hC
          rw [ho] at co
          have z1 : (st != st) = false := by simp
          cases hop2 : op r2 with
          | err n =>
            rw [hop2] at hC
            simp only at hC
            subst hC
            repeat (first | ((first | (with_reducible (first | refine Qa fun K E hK hE => ?_ | refine FunW.ret (FunW.call cs) ?_ | refine Qo co ?_)) | (refine QR (id := 3) [(0, 0), (1, 0), (2, 0), (3, 0), (4, 0), (5, 0), (6, 0), (7, 0), (8, 0), (9, 0), (10, 0), (11, 0)] mixed (by kernel_rfl) fun K hK => ?_)); simp -implicitDefEqProofs only [Q4, Q1, Xb, Qd, Qb, Qg, OpW, QO, aop, undef, AS.ev, Qc, QV, Qn, Qi, AV.QmP, QU, Xp, QnF, QnG, Qt, QnH, ↓reduceIte, Qny, Qnz, Nat.reduceLT, Nat.reduceEqDiff, Qnx, QnK, QnT, Qp, QK, QL, Q5, QW, aBin, Yx, aLen, Qnl, Qnm, QnP, Qnn, Qn0, Qno, QnA, QnE, Xh, Qij, goInt, Qn6, ti9, ei9, XS, QX, t0, t1, f2, f3, hsl, Xr, hh, hp, z2]) | (with_reducible (first | refine Qh fun K hK => ?_ | refine Qq ?_ | refine QA ?_ | refine Qj ?_)) | ((with_reducible refine hK _ ?_); clear hK) | (refine Qk rfl ?_; simp only [↓reduceIte, Qnp]))
            have c2 := fun L => H.err (by omega) hi ((hT.rds hi r2)) L hop2
            refine Qdo 3 [(0, 1), (1, 0), (2, 1)] mixed rfl rfl rfl (by kernel_rfl) (fun v h' => v = Err n ∧ ∃ x, h' = hs h i (rd x) ++ [.cells 24 4 [.agg [.i 0, .i 0, .v (.string { data := #[] }), .v (.slice none 0 0)]], .cells 24 4 [t.av]]) ?_ ?_
            · rintro tm v h' ⟨rfl, x, rfl⟩
              exact Zv _ _ _ _ _ _
            · simp -implicitDefEqProofs only [Q4, Q1, Xb, Qg, aop, AS.ev, Qc, Qi, ↓reduceIte, Qny, Qnz, Nat.reduceAdd, Nat.reduceLT, Nat.reduceEqDiff, Qnx, QnT, QK, QL, Qnl, Qnm, Qnn, Qno, QnE, T.QmN, T.QmO, ti24, t2, t7, f5, T.QmN, T.QmO]
              exact fun _ => (FunW.meth (c2 _)).mono (by rintro _ _ ⟨rfl, x, rfl⟩; exact ⟨_, rfl, rfl, x, rfl⟩)
          | ok u r3 =>
            rw [hop2] at hC
            repeat (first | ((first | (with_reducible (first | refine Qa fun K E hK hE => ?_ | refine FunW.ret (FunW.call cs) ?_ | refine Qo co ?_)) | (refine QR (id := 3) [(0, 0), (1, 0), (2, 0), (3, 0), (4, 0), (5, 0), (6, 0), (7, 0), (8, 0), (9, 0), (10, 0), (11, 0)] mixed (by kernel_rfl) fun K hK => ?_)); simp -implicitDefEqProofs only [Q4, Q1, Xb, Qd, Qb, Qg, OpW, QO, aop, undef, AS.ev, Qc, QV, Qn, Qi, AV.QmP, QU, Xp, QnF, QnG, Qt, QnH, ↓reduceIte, Qny, Qnz, Nat.reduceLT, Nat.reduceEqDiff, Qnx, QnK, QnT, Qp, QK, QL, Q5, QW, aBin, Yx, aLen, Qnl, Qnm, QnP, Qnn, Qn0, Qno, QnA, QnE, Xh, Qij, goInt, Qn6, ti9, ei9, XS, QX, t0, t1, f2, f3, hsl, Xr, hh, hp, z2]) | (with_reducible (first | refine Qh fun K hK => ?_ | refine Qq ?_ | refine QA ?_ | refine Qj ?_)) | ((with_reducible refine hK _ ?_); clear hK) | (refine Qk rfl ?_; simp only [↓reduceIte, Qnp]))
            have hr3 := hEat r2 u r3 hop2
            have c2 := fun L => H.ok (by omega) hi ((hT.rds hi r2)) L hop2
            have cf := QiE (mkB [c]) t u
            refine Qdy 1 3 [(0, 1), (2, 1)] [(1, 0), (3, 2), (4, 1), (5, 1), (6, 2)] [(3, 2), (1, 0), (4, 1), (5, 1), (6, 2)] mixed rfl (by kernel_rfl) (by kernel_rfl) (by kernel_rfl) (by kernel_rfl) (by kernel_rfl) (by kernel_rfl) fun K hK => ?_
            simp -implicitDefEqProofs only [Q4, Q1, Xb, Qg, aop, AS.ev, Qc, Qi, ↓reduceIte, Qny, Qnz, Nat.reduceAdd, Nat.reduceLT, Nat.reduceLeDiff, Nat.reduceEqDiff, Qnx, QnT, QK, QL, Qnl, Qnm, Qnn, Qno, QnE, T.QmN, T.QmO, ti24, t2, t7, f5]
            simp only at hC
            have hfu := Qeh hEat st r3.length r.length (r3.length + 1) (.mk 2 0 (mkB [c]) [t, u]) r3 (Nat.le_refl _) (by omega) (by omega)
            rw [hfu] at hC
            refine ⟨?_, ?_⟩
            · refine Xs (FunW.meth (c2 _)) YY ?_
              simp -implicitDefEqProofs only [Q1, Xb, Qg, aop, AS.ev, Qc, Qi, AV.QmP, QB, QnF, QnG, Qv, Qt, QM, QC, QnH, ↓reduceIte, Qny, Qnz, Nat.reduceAdd, Nat.reduceLT, Nat.reduceLeDiff, Nat.reduceEqDiff, Nat.reduceMul, Qnx, QnT, QP, Qnl, Qnm, Qno, QnA, QnE, Qnt, rng2, Q2, Nat.reducePow, T.QmN, ei22, zi24, T.QmN]
              repeat (first | (((with_reducible refine QQ cf ?_)); simp -implicitDefEqProofs only [Q4, Q1, Xb, Qg, aop, undef, AS.ev, Qc, QV, Qi, AV.QmP, QnF, QnG, Qv, Qt, QC, QnH, ↓reduceIte, Qny, Qnz, Nat.reduceAdd, Nat.reduceLT, Nat.reduceEqDiff, Qnx, QnT, Q5, QW, Qnl, Qnm, QnP, QnQ, Qnn, Qno, T.QmN, T.QmO, ti24, t7, f5, f7, T.QmN, T.QmO]) | (with_reducible (first | refine Qj ?_ | refine QD ?_)) | ((with_reducible refine hK _ ?_); clear hK))
              refine Yr.mk (m' := r3.length) (by omega) ?_
              rw [hI]
              exact ⟨.mk 2 0 (mkB [c]) [t, u], r3, rfl, by omega, hC, t0, t1, t2, t6, t7, rfl⟩
            · refine Xs (FunW.meth (c2 _)) YY ?_
              simp -implicitDefEqProofs only [Q1, Xb, Qg, aop, AS.ev, Qc, Qi, AV.QmP, QB, QnF, QnG, Qv, Qt, QM, QC, QnH, ↓reduceIte, Qny, Qnz, Nat.reduceAdd, Nat.reduceLT, Nat.reduceLeDiff, Nat.reduceEqDiff, Nat.reduceMul, Qnx, QnT, QK, QL, QP, Qnl, Qnm, Qnn, Qno, QnA, QnE, Qnt, rng2, Q2, Nat.reducePow, T.QmN, T.QmO, ei22, ti24, zi24, t7, f5, T.QmN, T.QmO]
              repeat (first | (((with_reducible refine QQ cf ?_)); simp -implicitDefEqProofs only [Q4, Q1, Xb, Qg, aop, undef, AS.ev, Qc, QV, Qi, AV.QmP, QnF, QnG, Qv, Qt, QC, QnH, ↓reduceIte, Qny, Qnz, Nat.reduceAdd, Nat.reduceLT, Nat.reduceEqDiff, Qnx, QnT, Q5, QW, Qnl, Qnm, QnP, QnQ, Qnn, Qno, T.QmN, T.QmO, ti24, t7, f5, f7, T.QmN, T.QmO]) | (with_reducible (first | refine Qj ?_ | refine QD ?_)) | ((with_reducible refine hK _ ?_); clear hK))
              refine Yr.mk (m' := r3.length) (by omega) ?_
              rw [hI]
              exact ⟨.mk 2 0 (mkB [c]) [t, u], r3, rfl, by omega, hC, t0, t1, t2, t6, t7, rfl⟩
        · rw [if_neg ho] at hC
          subst hC
          have z1 : (ofB (mkB [c]) != st) = true := by simpa using ho
          repeat (first | ((first | (with_reducible (first | refine Qa fun K E hK hE => ?_ | refine FunW.ret (FunW.call cs) ?_ | refine Qo co ?_)) | (refine QR (id := 3) [(0, 0), (1, 0), (2, 0), (3, 0), (4, 0), (5, 0), (6, 0), (7, 0), (8, 0), (9, 0), (10, 0), (11, 0)] mixed (by kernel_rfl) fun K hK => ?_)); simp -implicitDefEqProofs only [Q4, Q1, Xb, Qd, Qb, Qg, OpW, QO, aop, undef, AS.ev, Qc, QV, Qn, Qi, AV.QmP, QB, QU, QJ, QnF, QnG, Qv, Qt, QC, QnH, ↓reduceIte, Qny, Qnz, Nat.reduceAdd, Nat.reduceLT, Nat.reduceEqDiff, Qnx, QnK, QnT, Qp, QK, QL, Q5, QW, aBin, Yx, aLen, Qnl, Qnm, QnP, Qnn, Qn0, Qno, QnA, QnE, Xh, Qij, goInt, T.QmN, T.QmO, ti9, ei9, ti24, XS, QX, t0, t1, t6, t7, f2, f4, f5, f6, hsl, Xr, hh, z1, z2]) | (with_reducible (first | refine Qh fun K hK => ?_ | refine Qq ?_ | refine Ql ?_ | refine Qy ?_ | refine QF ?_)) | ((with_reducible refine hK _ ?_); clear hK) | (refine Qk rfl ?_; simp only [↓reduceIte]))
          simp -implicitDefEqProofs only [Qi, ↓reduceIte, Qny, Qnz, Nat.reduceAdd, Nat.reduceEqDiff, Qnx, QnT, QK, QL, Qnl, Qnr, T.QmN, T.QmO, ti24, t6, f4, T.QmN, T.QmO, QI, Qm, Qu, Qnv]
          exact Qe1 _ _ _ _ _ _
    · rw [hI]
      exact ⟨t, r, rfl, by omega, hC, rfl, rfl, rfl, rfl, rfl, rfl⟩
end Go.Proofs.YtehjodmnajgdgaaGreatDoor.Ab
set_option maxRecDepth 4000
namespace Go.Proofs.YtehjodmnajgdgaaGreatDoor.Ab
open Go.Proofs
def Qej (k : Nat) (f g : List UInt8 → Res T) : Prop := ∀ r, r.length ≤ k → f r = g r
theorem QcU {k : Nat} {f g : List UInt8 → Res T} (A : Qej k f g) (H : Eats 0 f) : ∀ (m : Nat) (l : List T) (r : List UInt8), r.length ≤ k + 1 → Zc f m l r = Zc g m l r
  | 0, _, _, _ => rfl
  | m + 1, l, r, hr => by
    rw [Zc, Zc]
    cases hs : skipSp r with
    | nil => rfl
    | cons c r2 =>
      have hl := Xl hs
      simp only
      rw [← A r2 (by omega)]
      split
      · cases he : f r2 with
        | err e => rfl
        | ok t r3 =>
          have := H _ _ _ he
          exact QcU A H m _ r3 (by omega)
      · rfl
theorem QiL (s : Bool) {k : Nat} {f g : List UInt8 → Res T} (A : Qej k f g) (H : Eats 0 f) : Qej (k + 1) (Yz s f) (Yz s g) := by
  intro r hr
  rw [Yz, Yz]
  cases hs : skipSp r with
  | nil => rfl
  | cons c r2 =>
    have hl := Xl hs
    simp only
    rw [← A r2 (by omega)]
    have hw : isL c = true → ZV f (c :: r2) = ZV g (c :: r2) := fun hc => by
      have ha : Zr f ((c :: r2).dropWhile isW) = Zr g ((c :: r2).dropWhile isW) := by
        have hd : ((c :: r2).dropWhile isW).length ≤ k := by
          rw [List.dropWhile_cons, if_pos (Qin hc)]
          have := QaZ isW r2
          omega
        rw [Zr, Zr]
        cases hs2 : skipSp ((c :: r2).dropWhile isW) with
        | nil => rfl
        | cons d r3 =>
          have hl2 := Xl hs2
          simp only
          rw [← A r3 (by omega)]
          split
          · cases he : f r3 with
            | err e => rfl
            | ok t r4 =>
              have := H _ _ _ he
              exact QcU A H _ _ r4 (by omega)
          · rfl
      rw [ZV, ZV, ha]
    split
    · rfl
    · split
      · rfl
      · split
        · rename_i hc; exact hw hc
        · rfl
theorem Qdh {k : Nat} {f g : List UInt8 → Res T} (A : Qej k f g) (H : Eats 0 f) (st : Int) : ∀ (m : Nat) (t : T) (r : List UInt8), r.length ≤ k → X9 f st m t r = X9 g st m t r
  | 0, _, _, _ => rfl
  | m + 1, t, r, hr => by
    rw [X9, X9]
    cases hs : skipSp r with
    | nil => rfl
    | cons c r2 =>
      have hl := Xl hs
      simp only
      rw [← A r2 (by omega)]
      split
      · cases he : f r2 with
        | err e => rfl
        | ok u r3 =>
          have := H _ _ _ he
          exact Qdh A H st m _ r3 (by omega)
      · rfl
theorem Qed {k : Nat} {f g : List UInt8 → Res T} (A : Qej k f g) (H : Eats 0 f) (st : Int) : Qej k (chain f st) (chain g st) := by
  intro r hr
  rw [chain, chain, ← A r hr]
  cases he : f r with
  | err e => rfl
  | ok t r2 =>
    have := H _ _ _ he
    exact Qdh A H st _ _ r2 (by omega)
theorem QcF (s : Bool) : ∀ k n n' : Nat, k < n → k < n' → Qej k (YA s n) (YA s n') := by
  intro k
  induction k with
  | zero =>
    intro n n' h h' r hr
    obtain ⟨a, rfl⟩ : ∃ a, n = a + 1 := ⟨n - 1, by omega⟩
    obtain ⟨b, rfl⟩ : ∃ a, n' = a + 1 := ⟨n' - 1, by omega⟩
    have : r = [] := List.eq_nil_of_length_eq_zero (by omega)
    subst this; rfl
  | succ k ih =>
    intro n n' h h'
    obtain ⟨a, rfl⟩ : ∃ a, n = a + 1 := ⟨n - 1, by omega⟩
    obtain ⟨b, rfl⟩ : ∃ a, n' = a + 1 := ⟨n' - 1, by omega⟩
    have A := QiL s (ih a b (by omega) (by omega)) (Yg s a)
    have H := Qbd s (Yg s a)
    exact Qed (Qed A H.zero 2) (ZF H 2).zero 1
def Q6 : List UInt8 → List UInt8
  | [] => []
  | c :: r => (if c.toNat = 40 ∨ c.toNat = 41 then [32, c, 32, 32] else if c.toNat = 44 then [32, c] else [c]) ++ Q6 r
def Lo (l l' : List UInt8) : Prop := skipSp l' = skipSp (Q6 l)
theorem Y4 (r : List UInt8) : skipSp (32 :: r) = skipSp r := by rw [skipSp, if_pos (by decide)]
theorem XR : ∀ r, skipSp (skipSp r) = skipSp r
  | [] => rfl
  | c :: r => by
    rw [skipSp]; split
    · exact XR r
    · rename_i h; rw [skipSp, if_neg h]
theorem Lo.skip {l l' : List UInt8} (h : Lo l l') : Lo l (skipSp l') := by rw [Lo, XR]; exact h
theorem Qbt : ∀ l : List UInt8, skipSp (Q6 l) = skipSp (Q6 (skipSp l))
  | [] => rfl
  | c :: r => by
    by_cases h : c.toNat = 32
    · rw [skipSp, if_pos h, Q6, if_neg (by omega), if_neg (by omega), List.singleton_append, skipSp, if_pos h]
      exact Qbt r
    · rw [skipSp, if_neg h]
theorem Lo.left {l l' : List UInt8} (h : Lo l l') : Lo (skipSp l) l' := by rw [Lo, ← Qbt]; exact h
theorem Qhz {r r2 : List UInt8} {c : UInt8} (h : skipSp r = c :: r2) : c.toNat ≠ 32 := by
  induction r with
  | nil => cases h
  | cons d r ih =>
    rw [skipSp] at h
    split at h
    · exact ih h
    · rename_i hd; cases h; exact hd
theorem Lo.nil {l l' : List UInt8} (h : Lo l l') (hs : skipSp l = []) : skipSp l' = [] := by
  rw [Lo, Qbt, hs] at h; exact h
theorem Lo.cons {l l' r : List UInt8} {c : UInt8} (h : Lo l l') (hs : skipSp l = c :: r) : ∃ r', skipSp l' = c :: r' ∧ Lo r r' ∧ (c.toNat ≠ 40 → c.toNat ≠ 41 → r' = Q6 r) := by
  have hc := Qhz hs
  rw [Lo, Qbt, hs, Q6] at h
  by_cases h1 : c.toNat = 40 ∨ c.toNat = 41
  · rw [if_pos h1] at h
    simp only [QnN, QnM] at h
    rw [Y4, skipSp, if_neg hc] at h
    refine ⟨_, h, ?_, fun a b => by omega⟩
    rw [Lo, Y4, Y4]
  · rw [if_neg h1] at h
    by_cases h2 : c.toNat = 44
    · rw [if_pos h2] at h
      simp only [QnN, QnM] at h
      rw [Y4, skipSp, if_neg hc] at h
      exact ⟨_, h, rfl, fun _ _ => rfl⟩
    · rw [if_neg h2] at h
      simp only [QnN, QnM] at h
      rw [skipSp, if_neg hc] at h
      exact ⟨_, h, rfl, fun _ _ => rfl⟩
theorem Lo.refl (r : List UInt8) : Lo r (Q6 r) := rfl
theorem Qhc {p : UInt8 → Bool} (hp : ∀ c, p c = true → c.toNat ≠ 40 ∧ c.toNat ≠ 41 ∧ c.toNat ≠ 44 ∧ c.toNat ≠ 32) : ∀ r : List UInt8, (Q6 r).takeWhile p = r.takeWhile p ∧ (Q6 r).dropWhile p = Q6 (r.dropWhile p)
  | [] => ⟨rfl, rfl⟩
  | c :: r => by
    have h32 : p 32 = false := by
      cases h : p 32 with
      | false => rfl
      | true => exact absurd rfl (hp 32 h).2.2.2
    by_cases h : p c = true
    · obtain ⟨h1, h2, h3, _⟩ := hp c h
      have ih := Qhc hp r
      have e : Q6 (c :: r) = c :: Q6 r := by rw [Q6, if_neg (by omega), if_neg h3]; rfl
      rw [e, List.takeWhile_cons, List.takeWhile_cons, List.dropWhile_cons, List.dropWhile_cons, if_pos h, if_pos h, if_pos h, if_pos h, ih.1, ih.2]
      exact ⟨rfl, rfl⟩
    · have hf : p c = false := by simpa using h
      rw [List.takeWhile_cons, List.dropWhile_cons, if_neg h, if_neg h, Q6]
      by_cases h1 : c.toNat = 40 ∨ c.toNat = 41
      · rw [if_pos h1]; simp [h32]
      · rw [if_neg h1]
        by_cases h2 : c.toNat = 44
        · rw [if_pos h2]; simp [h32]
        · rw [if_neg h2]; simp [hf]
theorem Qaq {c : UInt8} (h : isD c = true) : c.toNat ≠ 40 ∧ c.toNat ≠ 41 ∧ c.toNat ≠ 44 ∧ c.toNat ≠ 32 := by
  simp only [isD, decide_eq_true_eq] at h; omega
theorem Qd5 {c : UInt8} (h : isL c = true) : c.toNat ≠ 40 ∧ c.toNat ≠ 41 ∧ c.toNat ≠ 44 ∧ c.toNat ≠ 32 := by
  simp only [isL, decide_eq_true_eq] at h; omega
theorem Qg2 {c : UInt8} (h : isW c = true) : c.toNat ≠ 40 ∧ c.toNat ≠ 41 ∧ c.toNat ≠ 44 ∧ c.toNat ≠ 32 := by
  simp only [isW, Bool.or_eq_true] at h
  rcases h with h | h
  · exact Qd5 h
  · exact Qaq h
theorem QeJ (r : List UInt8) : headD (Q6 r) = headD r := by
  cases r with
  | nil => rfl
  | cons c r =>
    rw [Q6]
    by_cases h1 : c.toNat = 40 ∨ c.toNat = 41
    · rw [if_pos h1]
      show isD 32 = isD c
      rw [show isD 32 = false by decide]
      symm; rw [isD, decide_eq_false_iff_not]; omega
    · rw [if_neg h1]
      by_cases h2 : c.toNat = 44
      · rw [if_pos h2]
        show isD 32 = isD c
        rw [show isD 32 = false by decide]
        symm; rw [isD, decide_eq_false_iff_not]; omega
      · rw [if_neg h2]; rfl
def LoR {α : Type} : Res α → Res α → Prop
  | .ok a r, .ok b r' => a = b ∧ Lo r r'
  | .err e, .err e' => e = e'
  | _, _ => False
def LoF (f g : List UInt8 → Res T) : Prop := ∀ r r', Lo r r' → LoR (f r) (g r')
theorem LoR.ok {α : Type} {a : α} {r : List UInt8} {y : Res α} (h : LoR (.ok a r) y) : ∃ r', y = .ok a r' ∧ Lo r r' := by
  cases y with
  | err e => exact h.elim
  | ok b r' => obtain ⟨rfl, h⟩ := h; exact ⟨r', rfl, h⟩
theorem LoR.err {α : Type} {e : Int} {y : Res α} (h : LoR (.err e) y) : y = .err e := by
  cases y with
  | ok b r' => exact h.elim
  | err e' => have h : e = e' := h; subst h; rfl
theorem QlV (s : Bool) (sign : Int) {r : List UInt8} (hd : headD r = true) : LoR (pInt s sign r) (pInt s sign (Q6 r)) := by
  cases r with
  | nil => exact rfl
  | cons c r =>
    have hd : isD c = true := hd
    obtain ⟨h1, h2, h3, _⟩ := Qaq hd
    have e : Q6 (c :: r) = c :: Q6 r := by rw [Q6, if_neg (by omega), if_neg h3]; rfl
    have w := Qhc (fun c h => Qaq h) (c :: r)
    rw [e] at w
    rw [e, pInt, pInt, QeJ, w.1, w.2]
    split
    · split
      · exact rfl
      · exact ⟨rfl, rfl⟩
    · split
      · exact ⟨rfl, rfl⟩
      · exact rfl
theorem Ql7 {f g : List UInt8 → Res T} (H : LoF f g) (Hf : Eats 0 f) (Hg : Eats 0 g) : ∀ (n m m' : Nat) (l : List T) (r r' : List UInt8), r.length ≤ n → n < m → r'.length < m' → Lo r r' → LoR (Zc f m l r) (Zc g m' l r') := by
  intro n
  induction n with
  | zero =>
    intro m m' l r r' hr h1 h2 hL
    obtain ⟨a, rfl⟩ : ∃ a, m = a + 1 := ⟨m - 1, by omega⟩
    obtain ⟨b, rfl⟩ : ∃ a, m' = a + 1 := ⟨m' - 1, by omega⟩
    have : r = [] := List.eq_nil_of_length_eq_zero (by omega)
    subst this
    rw [Zc, Zc, hL.nil rfl]; exact rfl
  | succ n ih =>
    intro m m' l r r' hr h1 h2 hL
    obtain ⟨a, rfl⟩ : ∃ a, m = a + 1 := ⟨m - 1, by omega⟩
    obtain ⟨b, rfl⟩ : ∃ a, m' = a + 1 := ⟨m' - 1, by omega⟩
    rw [Zc, Zc]
    cases hs : skipSp r with
    | nil => rw [hL.nil hs]; exact rfl
    | cons c r2 =>
      obtain ⟨r2', hs', hL2, _⟩ := hL.cons hs
      have l1 := Xl hs
      have l2 := Xl hs'
      rw [hs']
      simp only
      split
      · have hr2 := H r2 r2' hL2
        cases he : f r2 with
        | err e => rw [he] at hr2; rw [hr2.err]; exact rfl
        | ok t r3 =>
          rw [he] at hr2
          obtain ⟨r3', e3, hL3⟩ := hr2.ok
          have e1 := Hf _ _ _ he
          have e2 := Hg _ _ _ e3
          rw [e3]
          exact ih a b _ r3 r3' (by omega) (by omega) (by omega) hL3
      · split
        · exact ⟨rfl, hL2⟩
        · exact rfl
theorem Qmc {f g : List UInt8 → Res T} (H : LoF f g) (Hf : Eats 0 f) (Hg : Eats 0 g) {r r' : List UInt8} (hL : Lo r r') : LoR (Zr f r) (Zr g r') := by
  rw [Zr, Zr]
  cases hs : skipSp r with
  | nil => rw [hL.nil hs]; exact ⟨rfl, rfl⟩
  | cons c r2 =>
    obtain ⟨r2', hs', hL2, hpl⟩ := hL.cons hs
    rw [hs']
    simp only
    split
    · have hr2 := H r2 r2' hL2
      cases he : f r2 with
      | err e => rw [he] at hr2; rw [hr2.err]; exact rfl
      | ok t r3 =>
        rw [he] at hr2
        obtain ⟨r3', e3, hL3⟩ := hr2.ok
        rw [e3]
        exact Ql7 H Hf Hg r3.length _ _ _ r3 r3' (Nat.le_refl _) (by omega) (by omega) hL3
    · refine ⟨rfl, ?_⟩
      have := hL.left.skip
      rwa [hs, hs'] at this
theorem Zd (ex : List UInt8 → Res T) (c : UInt8) (r : List UInt8) : ZV ex (c :: r) = if c.toNat < 97 then (match varV (mkB ((c :: r).takeWhile isW)) with
    | some k => .ok (.mk 1 k eB []) ((c :: r).dropWhile isW)
    | none => .err 7) else
  if XV (mkB ((c :: r).takeWhile isW)) = true then (match Zr ex ((c :: r).dropWhile isW) with
    | .ok l r2 => .ok (.mk 2 0 (mkB ((c :: r).takeWhile isW)) l) r2
    | .err e => .err e) else .err 7 := rfl
theorem QjQ {f g : List UInt8 → Res T} (H : LoF f g) (Hf : Eats 0 f) (Hg : Eats 0 g) {c : UInt8} (hc : isL c = true) (r : List UInt8) : LoR (ZV f (c :: r)) (ZV g (c :: Q6 r)) := by
  obtain ⟨h1, h2, h3, _⟩ := Qd5 hc
  have e : Q6 (c :: r) = c :: Q6 r := by rw [Q6, if_neg (by omega), if_neg h3]; rfl
  have w := Qhc (fun c h => Qg2 h) (c :: r)
  rw [e] at w
  rw [Zd, Zd, w.1, w.2]
  by_cases q1 : c.toNat < 97
  · rw [if_pos q1, if_pos q1]
    cases varV (mkB (List.takeWhile isW (c :: r))) with
    | some k => exact ⟨rfl, rfl⟩
    | none => exact rfl
  rw [if_neg q1, if_neg q1]
  by_cases q2 : XV (mkB (List.takeWhile isW (c :: r))) = true
  · rw [if_pos q2, if_pos q2]
    have ha := Qmc H Hf Hg (Lo.refl ((c :: r).dropWhile isW))
    cases he : Zr f ((c :: r).dropWhile isW) with
    | err e => rw [he] at ha; rw [ha.err]; exact rfl
    | ok l r3 =>
      rw [he] at ha
      obtain ⟨r3', e3, hL3⟩ := ha.ok
      rw [e3]
      exact ⟨rfl, hL3⟩
  · rw [if_neg q2, if_neg q2]; exact rfl
theorem Qmd (s : Bool) {f g : List UInt8 → Res T} (H : LoF f g) (Hf : Eats 0 f) (Hg : Eats 0 g) : LoF (Yz s f) (Yz s g) := by
  intro r r' hL
  rw [Yz, Yz]
  cases hs : skipSp r with
  | nil => rw [hL.nil hs]; exact rfl
  | cons c r2 =>
    obtain ⟨r2', hs', hL2, hpl⟩ := hL.cons hs
    rw [hs']
    simp only
    split
    · rename_i hd
      obtain ⟨p1, p2, p3, _⟩ := Qaq hd
      rw [hpl p1 p2]
      have := QlV s 1 (r := c :: r2) hd
      rwa [Q6, if_neg (by omega), if_neg p3] at this
    · split
      · rename_i h45
        rw [hpl (by omega) (by omega), QeJ]
        split
        · rename_i hd; exact QlV s (-1) hd
        · exact rfl
      · split
        · rename_i hl
          obtain ⟨p1, p2, _, _⟩ := Qd5 hl
          rw [hpl p1 p2]
          exact QjQ H Hf Hg hl r2
        · split
          · have hr2 := H r2 r2' hL2
            cases he : f r2 with
            | err e => rw [he] at hr2; rw [hr2.err]; exact rfl
            | ok t r3 =>
              rw [he] at hr2
              obtain ⟨r3', e3, hL3⟩ := hr2.ok
              rw [e3]
              simp only
              cases hs3 : skipSp r3 with
              | nil => rw [hL3.nil hs3]; exact rfl
              | cons d r4 =>
                obtain ⟨r4', hs4, hL4, _⟩ := hL3.cons hs3
                rw [hs4]
                simp only
                split
                · exact ⟨rfl, hL4⟩
                · exact rfl
          · exact rfl
theorem QkD {f g : List UInt8 → Res T} (H : LoF f g) (Hf : Eats 0 f) (Hg : Eats 0 g) (st : Int) : ∀ (n m m' : Nat) (t : T) (r r' : List UInt8), r.length ≤ n → n < m → r'.length < m' → Lo r r' → LoR (X9 f st m t r) (X9 g st m' t r') := by
  intro n
  induction n with
  | zero =>
    intro m m' t r r' hr h1 h2 hL
    obtain ⟨a, rfl⟩ : ∃ a, m = a + 1 := ⟨m - 1, by omega⟩
    obtain ⟨b, rfl⟩ : ∃ a, m' = a + 1 := ⟨m' - 1, by omega⟩
    have : r = [] := List.eq_nil_of_length_eq_zero (by omega)
    subst this
    rw [X9, X9, hL.nil rfl]; exact ⟨rfl, rfl⟩
  | succ n ih =>
    intro m m' t r r' hr h1 h2 hL
    obtain ⟨a, rfl⟩ : ∃ a, m = a + 1 := ⟨m - 1, by omega⟩
    obtain ⟨b, rfl⟩ : ∃ a, m' = a + 1 := ⟨m' - 1, by omega⟩
    rw [X9, X9]
    cases hs : skipSp r with
    | nil => rw [hL.nil hs]; exact ⟨rfl, rfl⟩
    | cons c r2 =>
      obtain ⟨r2', hs', hL2, _⟩ := hL.cons hs
      have l1 := Xl hs
      have l2 := Xl hs'
      have hsk := hL.left.skip
      rw [hs, hs'] at hsk
      rw [hs']
      simp only
      split
      · have hr2 := H r2 r2' hL2
        cases he : f r2 with
        | err e => rw [he] at hr2; rw [hr2.err]; exact rfl
        | ok u r3 =>
          rw [he] at hr2
          obtain ⟨r3', e3, hL3⟩ := hr2.ok
          have e1 := Hf _ _ _ he
          have e2 := Hg _ _ _ e3
          rw [e3]
          exact ih a b _ r3 r3' (by omega) (by omega) (by omega) hL3
      · exact ⟨rfl, hsk⟩
theorem Qis {f g : List UInt8 → Res T} (H : LoF f g) (Hf : Eats 0 f) (Hg : Eats 0 g) (st : Int) : LoF (chain f st) (chain g st) := by
  intro r r' hL
  rw [chain, chain]
  have hr := H r r' hL
  cases he : f r with
  | err e => rw [he] at hr; rw [hr.err]; exact rfl
  | ok t r2 =>
    rw [he] at hr
    obtain ⟨r2', e2, hL2⟩ := hr.ok
    rw [e2]
    exact QkD H Hf Hg st r2.length _ _ t r2 r2' (Nat.le_refl _) (by omega) (by omega) hL2
theorem Qhi (s : Bool) : ∀ n, LoF (YA s n) (YA s n)
  | 0 => fun _ _ _ => rfl
  | n + 1 => by
    have H := Qbd s (Yg s n)
    have H2 := ZF H 2
    exact Qis (Qis (Qmd s (Qhi s n) (Yg s n) (Yg s n)) H.zero H.zero 2) H2.zero H2.zero 1
theorem Qgv (s : Bool) (l : List UInt8) (t : T) (h : Zm s l = .ok t []) (hl : (Q6 l).length ≤ 16384) : Zm s (Q6 l) = .ok t [] := by
  rw [Zm] at h ⊢
  rw [if_neg (by omega)]
  split at h
  · cases h
  obtain ⟨N, hN⟩ : ∃ N, N = l.length + (Q6 l).length + 1 := ⟨_, rfl⟩
  rw [QcF s l.length (l.length + 1) N (by omega) (by omega) l (Nat.le_refl _)] at h
  rw [QcF s (Q6 l).length ((Q6 l).length + 1) N (by omega) (by omega) (Q6 l) (Nat.le_refl _)]
  have hr := Qhi s N l (Q6 l) rfl
  cases he : YA s N l with
  | err e => rw [he] at h; cases h
  | ok a r =>
    rw [he] at hr h
    obtain ⟨r', e', hL⟩ := hr.ok
    rw [e']
    simp only at h ⊢
    split at h
    · cases h
    · rename_i h1
      have h1 : skipSp r = [] := by
        apply Classical.byContradiction; intro hc; exact h1 hc
      rw [if_neg (by rw [hL.nil h1]; simp)]
      exact h
end Go.Proofs.YtehjodmnajgdgaaGreatDoor.Ab
set_option maxRecDepth 4000
namespace Go.Proofs.YtehjodmnajgdgaaGreatDoor.Ab
open Go.Proofs
def AQ (h : AH) (i : Nat) : Res (List T) → AOut → AH → Prop
  | .ok l r, o, h' => o = .ret (.sl 4 (avs l) none) ∧ h' = hs h i (rd r)
  | .err e, o, h' => o = .panic (Err e) ∧ ∃ r, h' = hs h i (rd r)
theorem Qh0 {l : List UInt8} (h : skipSp l = []) {k : Int} (hk : 0 ≠ k) : (nx l : Int) ≠ k := by rw [nx, h]; exact hk
theorem Qla {l r : List UInt8} {c : UInt8} (h : skipSp l = c :: r) {k : Int} (hk : ((c.toNat : Nat) : Int) ≠ k) : (nx l : Int) ≠ k := by rw [nx, h]; exact hk
theorem Qji {l r : List UInt8} {c : UInt8} (h : skipSp l = c :: r) : skipSp (c :: r) = c :: r := by rw [← h, XR]
theorem QmM (h : AH) (i : Nat) (l r : List UInt8) (ts : List T) (own : Option Nat) (L : AH) : Leaves (hs h i (rd l)) (hs h i (rd r) ++ L) (.sl 4 (avs ts) own) fun v h' => AQ h i (.ok ts r) (.ret v) h' :=
  Xc (Q := fun v h' => AQ h i (.ok ts r) (.ret v) h') (Y5 _ _) (.tok (Qbp _ _)) ⟨rfl, rfl⟩
theorem QlL (h : AH) (i : Nat) (l r : List UInt8) (L : AH) : Leaves (hs h i (rd l)) (hs h i (rd r) ++ L) (.v (.slice none 0 0)) fun v h' => AQ h i (.ok [] r) (.ret v) h' :=
  Xc (Q := fun v h' => AQ h i (.ok [] r) (.ret v) h') (Y5 _ _) (.nil 4) ⟨rfl, rfl⟩
theorem QhZ (h : AH) (i : Nat) (l r : List UInt8) (e : Int) (L : AH) : Leaves (hs h i (rd l)) (hs h i (rd r) ++ L) (Err e) fun v h' => AQ h i (.err e) (.panic v) h' :=
  Xc (Q := fun v h' => AQ h i (.err e) (.panic v) h') (Y5 _ _) (.keep (Qar _ _)) ⟨rfl, _, rfl⟩
theorem Qg4 {ex : List UInt8 → Res T} {N : Nat} (H : Rdr 49 ex N) (hEat : Eats 0 ex) (hN : N ≤ 1000000) (l : List UInt8) (hl : l.length < N + 1) (h : AH) (i : Nat) (hi : i < h.length) (hT : Tabs (hs h i (rd l))) :
    Xd Tryz.prog 97 [.ptr i 0 0] (hs h i (rd l)) (AQ h i (Zr ex l)) := by
  have f1 := X3 h i
  have f2 := Z5 hi
  have f4 := fun x L => ZN (h := h) (i := i) x L
  have f6 := fun x y L => ZA (h := h) (i := i) x y L
  have e0 := fun x => List.append_nil (hs h i x)
  rw [Zr]
  cases hsk : skipSp l with
  | nil =>
    have ct := Qbg hi (Qh0 hsk (k := 40) (by decide)) []
    rw [e0, e0, hsk] at ct
    refine Qe Tryz.func97 rfl Tryz.call97 Tryz.ntmps97 (congrArg Array.toList Tryz.results97) (by simp) ?_
    repeat (first | ((first | (with_reducible (first | refine Qa fun K E hK hE => ?_ | refine FunW.ret (FunW.call ct) ?_))); simp -implicitDefEqProofs only [Qd, Qb, Qg, OpW, QO, aop, undef, AS.ev, Qc, Qn, YG, Qi, Qw, Qns, QnJ, ↓reduceIte, Nat.reduceLT, Nat.reduceEqDiff, Qnn, QnA, QnE, Xa]) | (with_reducible (first | refine Qh fun K hK => ?_ | refine Ql ?_ | refine Qy ?_)) | ((with_reducible refine hK _ ?_); clear hK) | (refine Qk rfl ?_; simp only [↓reduceIte]))
    simp -implicitDefEqProofs only [Qi, ↓reduceIte, Qnr, QI, Qm, Qu, Qnv]
    have := QlL h i l [] []
    rw [e0] at this
    exact this
  | cons c r2 =>
    simp only
    have hlt := Xl hsk
    by_cases h40 : c.toNat = 40
    · rw [if_pos h40]
      have ct := QdL hi hsk (k := 40) (by omega) []
      rw [e0, e0] at ct
      have hT2 := hT.rds hi r2
      cases hex : ex r2 with
      | err n =>
        have c1 := fun L => H.err (by omega) hi hT2 L hex
        refine Qe Tryz.func97 rfl Tryz.call97 Tryz.ntmps97 (congrArg Array.toList Tryz.results97) (by simp) ?_
        have c1' := c1 []
        simp only [e0] at c1'
        repeat (first | ((first | (with_reducible (first | refine Qa fun K E hK hE => ?_ | refine FunW.ret (FunW.call ct) ?_ | refine FunW.panE (FunW.call c1') fun r => ?_))); simp -implicitDefEqProofs only [Qd, Qb, Qg, OpW, QO, aop, undef, AS.ev, Qc, Qn, YG, Qi, Qw, Qns, QnI, ↓reduceIte, Nat.reduceLT, Nat.reduceEqDiff, Qnn, QnA, QnE, Xa]) | (with_reducible (first | refine Qh fun K hK => ?_ | refine QA ?_ | refine Qj ?_)) | ((with_reducible refine hK _ ?_); clear hK) | (refine Qk rfl ?_; simp only [↓reduceIte, Qnp]) | (with_reducible refine hE _ _ ?_))
        have := fun r => QhZ h i l r n []
        simp only [e0] at this
        exact this _
      | ok t r =>
        have c1 := fun L => H.ok (by omega) hi hT2 L hex
        have hr := hEat r2 t r hex
        simp only
        generalize hC : Zc ex (r.length + 1) [t] r = C
        refine Qe Tryz.func97 rfl Tryz.call97 Tryz.ntmps97 (congrArg Array.toList Tryz.results97) (by simp) ?_
        have c1' := c1 []
        rw [e0, e0] at c1'
        iterate 10 (try (first | ((first | (with_reducible (first | refine Qa fun K E hK hE => ?_ | refine FunW.ret (FunW.call ct) ?_))); simp -implicitDefEqProofs only [Qd, Qb, Qg, OpW, QO, aop, undef, AS.ev, Qc, Qn, YG, Qi, Qw, Qns, QnI, ↓reduceIte, Nat.reduceLT, Nat.reduceEqDiff, Qnn, QnA, QnE, Xa]) | (with_reducible (first | refine Qh fun K hK => ?_ | refine QA ?_ | refine Qj ?_)) | ((with_reducible refine hK _ ?_); clear hK) | (refine Qk rfl ?_; simp only [↓reduceIte, Qnp])))
        (refine QfZ 2 rfl fun K E hK hE => ?_)
        simp only [Qnw, QnD, Qnu, QnC]
        simp -implicitDefEqProofs only [Qb, Qg, OpW, aop, undef, AS.ev, Qc, Qi, Qw, Qns, ↓reduceIte, Nat.reduceLT, Nat.reduceEqDiff, QnA, QnE]
        repeat ((((with_reducible refine FunW.ret (FunW.call c1') ?_)); simp -implicitDefEqProofs only [Qd, QO, Qc, Nat.reduceLT]))
        simp only [TokW]
        simp -implicitDefEqProofs only [Qd, Qb, Qg, OpW, aop, undef, AS.ev, Qc, Qi, Qw, AV.QmP, QB, QnF, QnG, Qv, Qt, QM, QC, QnH, ↓reduceIte, Qny, Qnz, Nat.reduceAdd, Nat.reduceLT, Nat.reduceLeDiff, Nat.reduceEqDiff, Nat.reduceMul, Qnx, QnT, QP, QnA, QnE, Qnt, rng1, Q2, Nat.reducePow, T.QmN, ei22, zi24, f1, T.QmN]
        refine ⟨rfl, ?_⟩
        repeat (first | (with_reducible (first | refine Qh fun K hK => ?_ | refine Qq ?_)) | ((with_reducible refine hK _ ?_); clear hK))
        obtain ⟨I, hI⟩ : ∃ I : Nat → AS → Prop, I = fun m' s => ∃ (ls : List T) (r : List UInt8), m' = r.length ∧ ls.length + r.length ≤ N + 1 ∧ r.length < N ∧ Zc ex (r.length + 1) ls r = C ∧ s.tm 0 = .ptr i 0 0 ∧ s.tm 3 = .sl 4 (avs ls) (some h.length) ∧ s.h = hs h i (rd r) ++ [.grow 24 4 ls.length] := ⟨_, rfl⟩; refine XM I ?_ (m := r.length) ?_
        · intro m' s hs; rw [hI] at hs; obtain ⟨tm, hp⟩ := s; dsimp only at hs; obtain ⟨ls, r, rfl, hb, hrN, hC, t0, t3, rfl⟩ := hs
          rw [Zc] at hC
          have cy := ZW 16
          have cn := fun h => QbO 16 h
          have hT3 := hT.rds hi r
          cases hsk2 : skipSp r with
          | nil =>
            rw [hsk2] at hC
            simp only at hC
            subst hC
            have c44 := Qbg hi (Qh0 hsk2 (k := 44) (by decide)) [.grow 24 4 ls.length]
            have c41 := Qbg hi (l := []) (Qh0 (l := []) rfl (k := 41) (by decide)) [.grow 24 4 ls.length]
            rw [hsk2] at c44
            repeat (first | ((first | (with_reducible (first | refine Qa fun K E hK hE => ?_ | refine FunW.ret (FunW.call c44) ?_ | refine FunW.ret (FunW.call c41) ?_ | refine FunW.pan (FunW.call (cn _)) ?_))); simp -implicitDefEqProofs only [Qd, Qb, Qg, OpW, QO, aop, AS.ev, Qc, Qn, Qi, ↓reduceIte, Nat.reduceLT, Nat.reduceEqDiff, QnA, QnE, t0]) | (with_reducible (first | refine Qh fun K hK => ?_ | refine Xj ?_ | refine Qj ?_ | refine Q9 ?_ | refine Q8 ?_)) | ((with_reducible refine hK _ ?_); clear hK) | (clear hK; (with_reducible refine hK _ ?_); clear hK) | (refine Qk rfl ?_; simp only [↓reduceIte, Qnp]) | (with_reducible refine hE _ _ ?_))
            exact QhZ _ _ _ _ _ _
          | cons d r3 =>
            rw [hsk2] at hC
            simp only at hC
            have hlt2 := Xl hsk2
            have hid := Qji hsk2
            by_cases h44 : d.toNat = 44
            · rw [if_pos h44] at hC
              have c44 := QdL hi hsk2 (k := 44) (by omega) [.grow 24 4 ls.length]
              have hT4 := hT.rds hi r3
              cases hex2 : ex r3 with
              | err n =>
                rw [hex2] at hC
                simp only at hC
                subst hC
                have c2 := H.err (by omega) hi hT4 [.grow 24 4 ls.length] hex2
                repeat (first | ((first | (with_reducible (first | refine Qa fun K E hK hE => ?_ | refine Qs fun K E hK hE => ?_ | refine FunW.ret (FunW.call c44) ?_ | refine FunW.panE (FunW.call c2) fun r => ?_))); simp -implicitDefEqProofs only [Qd, Qb, Qg, OpW, QO, aop, AS.ev, Qc, Qn, Qi, ↓reduceIte, Nat.reduceLT, Nat.reduceEqDiff, QnA, QnE, t0, t3]) | (with_reducible (first | refine Qh fun K hK => ?_ | refine Qq ?_ | refine QA ?_ | refine Qj ?_)) | ((with_reducible refine hK _ ?_); clear hK) | (refine Qk rfl ?_; simp only [↓reduceIte]) | (with_reducible (first | refine hE _ _ ?_ | refine XN ?_ | refine XQ ?_)))
                exact QhZ _ _ _ _ _ _
              | ok u r4 =>
                rw [hex2] at hC
                simp only at hC
                have hr4 := hEat r3 u r4 hex2
                have hfu := QjR hEat r4.length r.length (r4.length + 1) (ls ++ [u]) r4 (Nat.le_refl _) (by omega) (by omega)
                rw [hfu] at hC
                have c2 := H.ok (by omega) hi hT4 [.grow 24 4 ls.length] hex2
                have hm : (ls.length + 1) * 56 ≤ 140737488355328 := by omega
                have hm2 : ls.length + 1 ≤ maxLen := by simp only [maxLen]; omega
                repeat (first | ((first | (with_reducible (first | refine Qa fun K E hK hE => ?_ | refine Qs fun K E hK hE => ?_ | refine FunW.ret (FunW.call c44) ?_ | refine FunW.ret (FunW.call c2) ?_))); simp -implicitDefEqProofs only [Qd, Qb, Qg, OpW, QO, aop, AS.ev, Qc, Qn, Qi, AV.QmP, QB, QnF, QnG, Qv, Qt, QM, QC, QnH, ↓reduceIte, Qny, Qnz, Nat.reduceAdd, Nat.reduceLT, Nat.reduceLeDiff, Nat.reduceEqDiff, Nat.reduceMul, Qnx, QnT, QP, Za, YK, Qnl, QnP, QnA, QnE, Qnt, rng1, Q2, Nat.reducePow, T.QmN, QH, ei22, ai22, zi24, t0, t3, f4, f6, hm, hm2, QH, T.QmN]) | (with_reducible (first | refine Qh fun K hK => ?_ | refine Qq ?_ | refine QA ?_ | refine Qj ?_ | refine QD ?_)) | ((with_reducible refine hK _ ?_); clear hK) | (refine Qk rfl ?_; simp only [↓reduceIte]))
                refine Yr.mk (m' := r4.length) (by omega) ?_
                rw [hI]
                refine ⟨ls ++ [u], r4, rfl, by rw [List.length_append]; simp only [List.length_singleton]; omega, by omega, hC, t0, ?_, ?_⟩
                · rw [QiP]; rfl
                · rw [List.length_append]; rfl
            · rw [if_neg h44] at hC
              have c44 := Qbg hi (Qla hsk2 (k := 44) (by omega)) [.grow 24 4 ls.length]
              rw [hsk2] at c44
              by_cases h41 : d.toNat = 41
              · rw [if_pos h41] at hC
                subst hC
                have c41 := QdL hi hid (k := 41) (by omega) [.grow 24 4 ls.length]
                repeat (first | ((first | (with_reducible (first | refine Qa fun K E hK hE => ?_ | refine FunW.ret (FunW.call c44) ?_ | refine FunW.ret (FunW.call c41) ?_ | refine Qo cy ?_))); simp -implicitDefEqProofs only [Qd, Qb, Qg, OpW, QO, aop, AS.ev, Qc, Qn, Qi, ↓reduceIte, Nat.reduceLT, Nat.reduceEqDiff, QnA, QnE, t0, t3]) | (with_reducible (first | refine Qh fun K hK => ?_ | refine Ql ?_ | refine Xj ?_ | refine Qj ?_ | refine Q9 ?_ | refine Q8 ?_)) | ((with_reducible refine hK _ ?_); clear hK) | (clear hK; (with_reducible refine hK _ ?_); clear hK) | (refine Qk rfl ?_; simp only [↓reduceIte, Qnp]))
                simp -implicitDefEqProofs only [Qi, ↓reduceIte, Qnr, QI, Qm, Qu, Qnv]
                exact QmM _ _ _ _ _ _ _
              · rw [if_neg h41] at hC
                subst hC
                have c41 := Qbg hi (Qla hid (k := 41) (by omega)) [.grow 24 4 ls.length]
                rw [hid] at c41
                repeat (first | ((first | (with_reducible (first | refine Qa fun K E hK hE => ?_ | refine FunW.ret (FunW.call c44) ?_ | refine FunW.ret (FunW.call c41) ?_ | refine FunW.pan (FunW.call (cn _)) ?_))); simp -implicitDefEqProofs only [Qd, Qb, Qg, OpW, QO, aop, AS.ev, Qc, Qn, Qi, ↓reduceIte, Nat.reduceLT, Nat.reduceEqDiff, QnA, QnE, t0]) | (with_reducible (first | refine Qh fun K hK => ?_ | refine Xj ?_ | refine Qj ?_ | refine Q9 ?_ | refine Q8 ?_)) | ((with_reducible refine hK _ ?_); clear hK) | (clear hK; (with_reducible refine hK _ ?_); clear hK) | (refine Qk rfl ?_; simp only [↓reduceIte, Qnp]) | (with_reducible refine hE _ _ ?_))
                exact QhZ _ _ _ _ _ _
        · rw [hI]
          exact ⟨[t], r, rfl, by show 1 + r.length ≤ N + 1; omega, by omega, hC, rfl, rfl, rfl⟩
    · rw [if_neg h40]
      have ct := Qbg hi (Qla hsk (k := 40) (by omega)) []
      rw [e0, e0, hsk] at ct
      refine Qe Tryz.func97 rfl Tryz.call97 Tryz.ntmps97 (congrArg Array.toList Tryz.results97) (by simp) ?_
      repeat (first | ((first | (with_reducible (first | refine Qa fun K E hK hE => ?_ | refine FunW.ret (FunW.call ct) ?_))); simp -implicitDefEqProofs only [Qd, Qb, Qg, OpW, QO, aop, undef, AS.ev, Qc, Qn, YG, Qi, Qw, Qns, QnJ, ↓reduceIte, Nat.reduceLT, Nat.reduceEqDiff, Qnn, QnA, QnE, Xa]) | (with_reducible (first | refine Qh fun K hK => ?_ | refine Ql ?_ | refine Qy ?_)) | ((with_reducible refine hK _ ?_); clear hK) | (refine Qk rfl ?_; simp only [↓reduceIte]))
      simp -implicitDefEqProofs only [Qi, ↓reduceIte, Qnr, QI, Qm, Qu, Qnv]
      have := QlL h i l (c :: r2) []
      rw [e0] at this
      exact this
end Go.Proofs.YtehjodmnajgdgaaGreatDoor.Ab
set_option maxRecDepth 4000
namespace Go.Proofs.YtehjodmnajgdgaaGreatDoor.Ab
open Go.Proofs
theorem Qjq {s : ByteArray} {k : Nat} (h : varV s = some k) : Qj8 s k := by
  unfold varV at h
  split at h
  · split at h
    · rename_i v hd hc
      cases h
      exact ⟨hc.1, QaU hc.2⟩
    · cases h
  · cases h
theorem Qjj {s : ByteArray} (h : varV s = none) (k : Nat) : ¬ Qj8 s k := by
  rintro ⟨hk, rfl⟩
  have e : (vOf (decN k)).data.toList.drop 1 = Lib.decDigits k := by
    have : (vOf (decN k)).data.toList = 86 :: (decN k).data.toList := Xk _ _
    rw [this]; rfl
  unfold varV at h
  rw [e, Qay] at h
  simp only at h
  rw [if_pos ⟨hk, trivial⟩] at h
  cases h
theorem Qjv (s : ByteArray) (l : List T) : Pure Tryz.prog 96 [.v (.string s), .sl 4 (avs l) none] (T.mk 2 0 s l).av := by
  intro h
  refine Qe Tryz.func96 rfl Tryz.call96 Tryz.ntmps96 (congrArg Array.toList Tryz.results96) (by simp) ?_
  repeat (first | (((with_reducible refine Qa fun K E hK hE => ?_)); simp -implicitDefEqProofs only [Qd, Qb, Qg, OpW, aop, undef, AS.ev, Qc, QV, Qn, Qi, Qw, Qns, QnL, AV.QmP, QB, QU, Yf, QJ, QnF, QnG, Qv, Qt, QM, QC, QnH, ↓reduceIte, Qny, Qnz, Nat.reduceAdd, Nat.reduceLT, Nat.reduceLeDiff, Nat.reduceEqDiff, Qnx, QnT, Q5, QW, X4, Yj, QT, YQ, Qnl, Qnm, QnP, Qnn, QnA, QnE, QnN, QnM, QnO, Qnw, QnD, Qnu, QnC, ti24, zi24, sp24]) | (with_reducible refine Ql ?_) | ((with_reducible refine hK _ ?_); clear hK))
  simp -implicitDefEqProofs only [Qi, QB, QJ, ↓reduceIte, Qny, Qnz, Nat.reduceAdd, Nat.reduceEqDiff, Qnx, QnT, QT, Qnl, Qnr, ti24, QK, QL, QT, QI, Qm, Qu, Qnv]
  exact Qf (htake _ _) (.keep (T.Qm0 _ (T.mk 2 0 s l))) ⟨rfl, rfl⟩
theorem QjP (s : ByteArray) : (decide (QbA 1 s) && !resB s) = XV s := rfl
theorem Qd3 {ex : List UInt8 → Res T} {N : Nat} (H : Rdr 49 ex N) (hEat : Eats 0 ex) (hN : N ≤ 1000000) (c : UInt8) (q : List UInt8) (hc : isL c = true) (hl : (c :: q).length < N + 1) (h : AH) (i : Nat) (hi : i < h.length) (hT : Tabs (hs h i (rd (c :: q)))) :
    Xd Tryz.prog 55 [.ptr i 0 0] (hs h i (rd (c :: q))) (RQ h i (ZV ex (c :: q))) := by
  have f1 := X3 h i
  have f2 := Z5 hi
  have f4 := fun x L => ZN (h := h) (i := i) x L
  have f6 := fun x y L => ZA (h := h) (i := i) x y L
  have hw : isW c = true := Qin hc
  have hrun := fun L => QkL hi Qi2 (c :: q) (by omega) L
  have hhd : (c :: q).takeWhile isW = c :: q.takeWhile isW := by rw [List.takeWhile_cons, hw]; rfl
  have hdl : ((c :: q).dropWhile isW).length < N := by
    rw [List.dropWhile_cons, hw]
    have := QaZ isW q
    simp only [if_true, Qny] at hl ⊢; omega
  have hix := ZD Tryz.prog 9 (by kernel_rfl) (mkB ((c :: q).takeWhile isW)) (by rw [Xr, hhd]; simp)
  rw [Qbo _ 0 (by rw [hhd]; simp)] at hix
  have hc0 : ((c :: q).takeWhile isW)[0]'(by rw [hhd]; simp) = c := by simp only [hhd, List.getElem_cons_zero]
  rw [hc0] at hix
  have hT2 := hT.rds hi ((c :: q).dropWhile isW)
  have cy := ZW 7
  have cn := fun h => QbO 7 h
  rw [ZV, List.headD_cons]
  generalize hs1 : (c :: q).takeWhile isW = w at *
  generalize hr1 : (c :: q).dropWhile isW = r at *
  by_cases h97 : c.toNat < 97
  · rw [if_pos h97]
    have z1 : ((c.toNat : Nat) : Int) < 97 := by omega
    cases hv : varV (mkB w) with
    | none =>
      have cN := fun L => QhK (mkB w) (Qjj hv) (hs h i (rd r) ++ L) (hT2.app L).1 (hT2.app L).2
      refine Qe Tryz.func55 rfl Tryz.call55 Tryz.ntmps55 (congrArg Array.toList Tryz.results55) (by simp) ?_
      repeat (first | ((first | (with_reducible (first | refine Qa fun K E hK hE => ?_ | refine FunW.ret (FunW.call (hrun _)) ?_ | refine FunW.ret (FunW.call (cN _)) ?_ | refine FunW.pan (FunW.call (cn _)) ?_))); simp -implicitDefEqProofs only [Qd, Qb, Qg, OpW, QO, aop, undef, AS.ev, Qc, Qn, Qi, Qw, Qns, AV.QmP, QB, QnF, QnG, Qv, Qt, QM, QnH, ↓reduceIte, Qny, Qnz, Nat.reduceAdd, Nat.reduceLT, Nat.reduceEqDiff, Qnx, aBin, XB, Qnl, Qnm, Qnn, QnA, QnE, Q0, QnR, zi24, f1, hix, z1]) | (with_reducible refine Qh fun K hK => ?_) | ((with_reducible refine hK _ ?_); clear hK) | (refine Qk rfl ?_; simp only [↓reduceIte]) | (with_reducible (first | refine hE _ _ ?_ | refine XN ?_)))
      exact Zv _ _ _ _ _ _
    | some k =>
      have cN := fun L => QiZ (mkB w) k (Qjq hv) (hs h i (rd r) ++ L) (hT2.app L).1
      have cV := QjB k
      refine Qe Tryz.func55 rfl Tryz.call55 Tryz.ntmps55 (congrArg Array.toList Tryz.results55) (by simp) ?_
      repeat (first | ((first | (with_reducible (first | refine Qa fun K E hK hE => ?_ | refine FunW.ret (FunW.call (hrun _)) ?_ | refine FunW.ret (FunW.call (cN _)) ?_ | refine Qo cy ?_ | refine Qo cV ?_))); simp -implicitDefEqProofs only [Qd, Qb, Qg, OpW, QO, aop, undef, AS.ev, Qc, QV, Qn, Qi, Qw, Qns, AV.QmP, QB, QJ, QnF, QnG, Qv, Qt, QM, QC, QnH, ↓reduceIte, Qny, Qnz, Nat.reduceAdd, Nat.reduceLT, Nat.reduceEqDiff, Qnx, QnT, Q5, QW, aBin, XB, Qnl, Qnm, QnP, Qnn, QnA, QnE, Q0, QnR, T.QmN, T.QmO, ti24, zi24, f1, f4, f6, hix, z1]) | (with_reducible (first | refine Qh fun K hK => ?_ | refine Ql ?_ | refine Qy ?_)) | ((with_reducible refine hK _ ?_); clear hK) | (refine Qk rfl ?_; simp only [↓reduceIte]))
      simp -implicitDefEqProofs only [Qi, ↓reduceIte, Qny, Qnz, Nat.reduceAdd, Nat.reduceEqDiff, Qnx, QnT, Qnl, Qnr, T.QmN, T.QmO, ti24, QK, QL, f4, T.QmN, T.QmO, QI, Qm, Qu, Qnv]
      exact Qe1 _ _ _ _ _ _
  · rw [if_neg h97]
    have z1 : ¬ ((c.toNat : Nat) : Int) < 97 := by omega
    have cR := QcS (mkB w)
    rw [QjP] at cR
    cases hr : XV (mkB w) with
    | false =>
      rw [hr] at cR
      rw [if_neg (by simp)]
      refine Qe Tryz.func55 rfl Tryz.call55 Tryz.ntmps55 (congrArg Array.toList Tryz.results55) (by simp) ?_
      repeat (first | ((first | (with_reducible (first | refine Qa fun K E hK hE => ?_ | refine FunW.ret (FunW.call (hrun _)) ?_ | refine Qo cR ?_ | refine FunW.pan (FunW.call (cn _)) ?_))); simp -implicitDefEqProofs only [Qd, Qb, Qg, OpW, QO, aop, undef, AS.ev, Qc, Qn, Qi, Qw, Qns, AV.QmP, QB, QnF, QnG, Qv, Qt, QM, QnH, ↓reduceIte, Qny, Qnz, Nat.reduceAdd, Nat.reduceLT, Nat.reduceEqDiff, Qnx, aBin, Qnn, QnA, QnE, Q0, QnS, zi24, f1, hix, z1]) | (with_reducible (first | refine Qh fun K hK => ?_ | refine QA ?_ | refine Qj ?_)) | ((with_reducible refine hK _ ?_); clear hK) | (refine Qk rfl ?_; simp only [↓reduceIte, Qnp]) | (with_reducible refine hE _ _ ?_))
      exact Zv _ _ _ _ _ _
    | true =>
      rw [hr] at cR
      rw [if_pos rfl]
      cases ha : Zr ex r with
      | err n =>
        have cA : ∀ L, Xd Tryz.prog 97 [.ptr i 0 0] (hs h i (rd r) ++ L) fun o h' => o = .panic (Err n) ∧ ∃ x, h' = hs h i (rd x) ++ L := fun L => by
          have := Qg4 H hEat hN r (by omega) (h ++ L) i (by rw [List.length_append]; omega) (by rw [X2 hi]; exact hT2.app L)
          rw [X2 hi, ha] at this
          exact this.mono fun o h' q => by simpa only [AQ, X2 hi] using q
        refine Qe Tryz.func55 rfl Tryz.call55 Tryz.ntmps55 (congrArg Array.toList Tryz.results55) (by simp) ?_
        repeat (first | ((first | (with_reducible (first | refine Qa fun K E hK hE => ?_ | refine FunW.ret (FunW.call (hrun _)) ?_ | refine Qo cR ?_ | refine Qo cy ?_ | refine FunW.panE (FunW.call (cA _)) fun x => ?_))); simp -implicitDefEqProofs only [Qd, Qb, Qg, OpW, QO, aop, undef, AS.ev, Qc, Qn, Qi, Qw, Qns, AV.QmP, QB, QnF, QnG, Qv, Qt, QM, QnH, ↓reduceIte, Qny, Qnz, Nat.reduceAdd, Nat.reduceLT, Nat.reduceEqDiff, Qnx, aBin, Qnn, QnA, QnE, Q0, QnS, zi24, f1, hix, z1]) | (with_reducible (first | refine Qh fun K hK => ?_ | refine QA ?_ | refine Qj ?_)) | ((with_reducible refine hK _ ?_); clear hK) | (refine Qk rfl ?_; simp only [↓reduceIte, Qnp]) | (with_reducible refine hE _ _ ?_))
        exact Zv _ _ _ _ _ _
      | ok l r2 =>
        have cA : ∀ L, Xd Tryz.prog 97 [.ptr i 0 0] (hs h i (rd r) ++ L) fun o h' => o = .ret (.sl 4 (avs l) none) ∧ h' = hs h i (rd r2) ++ L := fun L => by
          have := Qg4 H hEat hN r (by omega) (h ++ L) i (by rw [List.length_append]; omega) (by rw [X2 hi]; exact hT2.app L)
          rw [X2 hi, ha] at this
          exact this.mono fun o h' q => by simpa only [AQ, X2 hi] using q
        have cF := Qjv (mkB w) l
        refine Qe Tryz.func55 rfl Tryz.call55 Tryz.ntmps55 (congrArg Array.toList Tryz.results55) (by simp) ?_
        repeat (first | ((first | (with_reducible (first | refine Qa fun K E hK hE => ?_ | refine FunW.ret (FunW.call (hrun _)) ?_ | refine Qo cR ?_ | refine Qo cy ?_ | refine Qo cF ?_ | refine FunW.ret (FunW.call (cA _)) ?_))); simp -implicitDefEqProofs only [Qd, Qb, Qg, OpW, QO, aop, undef, AS.ev, Qc, QV, Qn, Qi, Qw, Qns, AV.QmP, QB, QJ, QnF, QnG, Qv, Qt, QM, QC, QnH, ↓reduceIte, Qny, Qnz, Nat.reduceAdd, Nat.reduceLT, Nat.reduceEqDiff, Qnx, QnT, Q5, QW, aBin, Qnl, QnP, Qnn, QnA, QnE, Q0, QnS, T.QmN, T.QmO, ti24, zi24, f1, f4, f6, hix, z1]) | (with_reducible (first | refine Qh fun K hK => ?_ | refine Ql ?_ | refine QA ?_ | refine Qj ?_)) | ((with_reducible refine hK _ ?_); clear hK) | (refine Qk rfl ?_; simp only [↓reduceIte, Qnp]))
        simp -implicitDefEqProofs only [Qi, ↓reduceIte, Qny, Qnz, Nat.reduceAdd, Nat.reduceEqDiff, Qnx, QnT, Qnl, Qnr, T.QmN, T.QmO, ti24, QK, QL, f4, T.QmN, T.QmO, QI, Qm, Qu, Qnv]
        exact Qe1 _ _ _ _ _ _
end Go.Proofs.YtehjodmnajgdgaaGreatDoor.Ab
set_option maxRecDepth 4000
namespace Go.Proofs.YtehjodmnajgdgaaGreatDoor.Ab
open Go.Proofs
def Opn (f : FuncId) (xs : List AV) (l : List UInt8) (res : Res T) : Prop := ∀ (h : AH) (i : Nat), i < h.length → Tabs (hs h i (rd l)) → Xd Tryz.prog f (.ptr i 0 0 :: xs) (hs h i (rd l)) (RQ h i res)
theorem Opn.ok {f : FuncId} {xs : List AV} {l : List UInt8} {t : T} {r : List UInt8} (H : Opn f xs l (.ok t r)) {h : AH} {i : Nat} (hi : i < h.length) (hT : Tabs (hs h i (rd l))) (L : AH) :
    Xd Tryz.prog f (.ptr i 0 0 :: xs) (hs h i (rd l) ++ L) fun o h' => o = .ret t.av ∧ h' = hs h i (rd r) ++ L := by
  have := H (h ++ L) i (by rw [List.length_append]; omega) (by rw [X2 hi]; exact hT.app L)
  rw [X2 hi] at this
  exact this.mono fun o h' q => by simpa only [RQ, X2 hi] using q
theorem Opn.err {f : FuncId} {xs : List AV} {l : List UInt8} {n : Int} (H : Opn f xs l (.err n)) {h : AH} {i : Nat} (hi : i < h.length) (hT : Tabs (hs h i (rd l))) (L : AH) :
    Xd Tryz.prog f (.ptr i 0 0 :: xs) (hs h i (rd l) ++ L) fun o h' => o = .panic (Err n) ∧ ∃ r, h' = hs h i (rd r) ++ L := by
  have := H (h ++ L) i (by rw [List.length_append]; omega) (by rw [X2 hi]; exact hT.app L)
  rw [X2 hi] at this
  exact this.mono fun o h' q => by simpa only [RQ, X2 hi] using q
theorem Qlw {c : UInt8} {k : Int} (hk : ((c.toNat : Nat) : Int) = k) (h : isD c = false) : Pure Tryz.prog 93 [.v (.int .u8 k)] (.b false) := by
  have := Qas c
  rw [h, hk] at this; exact this
theorem Qg0 {ex : List UInt8 → Res T} {N : Nat} (H : Rdr 49 ex N) (hEat : Eats 0 ex) (hN : N ≤ 1000000) : Rdr 116 (Yz false ex) (N + 1) := by
  intro l hl h i hi hT
  have f1 := X3 h i
  have f2 := Z5 hi
  have f3 := QcL hi
  have f4 := fun x L => ZN (h := h) (i := i) x L
  have f5 := fun x L k => Qge (h := h) (i := i) x L k
  have f6 := fun x y L => ZA (h := h) (i := i) x y L
  have f7 := fun x y L k => Z9 (h := h) (i := i) x y L k
  have cn := fun L => Qcw hi l L
  have cmy := ZW 16
  have cmn := fun h => QbO 16 h
  rw [Yz]
  unfold nx at cn
  cases hsk : skipSp l with
  | nil =>
    rw [hsk] at cn
    simp only at cn
    have z1 : (((0 : Nat) : Int) == 45) = false := rfl
    have z2 : (((0 : Nat) : Int) == 40) = false := rfl
    have z3 : ((0 : Int) == 45) = false := rfl
    have z4 : ((0 : Int) == 40) = false := rfl
    have cd := Qlw (c := 0) (k := (0 : Nat)) rfl rfl
    have cl := QbR 0
    rw [show isL 0 = false from rfl, show ((0 : UInt8).toNat : Int) = (0 : Nat) from rfl] at cl
    refine Qe Tryz.func116 rfl Tryz.call116 Tryz.ntmps116 (congrArg Array.toList Tryz.results116) (by simp) ?_
    repeat (first | ((first | (with_reducible (first | refine Qa fun K E hK hE => ?_ | refine Qs fun K E hK hE => ?_ | refine FunW.ret (FunW.call (cn _)) ?_ | refine Qo cd ?_ | refine Qo cl ?_))); simp -implicitDefEqProofs only [Qd, Qb, Qg, OpW, QO, aop, undef, AS.ev, Qc, Qn, Qi, Qw, Qns, AV.QmP, QB, QnF, QnG, Qv, Qt, QM, QnH, ↓reduceIte, Qny, Qnz, Nat.reduceAdd, Nat.reduceLT, Nat.reduceEqDiff, Qnx, aBin, Qnn, QnA, QnE, QS, Qn7, zi24, un38, f1, z3, z4]) | (with_reducible (first | refine Qh fun K hK => ?_ | refine Qq ?_ | refine QA ?_ | refine Qj ?_ | refine QD ?_)) | ((with_reducible refine hK _ ?_); clear hK) | (refine Qk rfl ?_; simp only [↓reduceIte, Qnp]) | (with_reducible refine hE _ _ ?_))
    exact Zv _ _ _ _ _ _
  | cons c r2 =>
    rw [hsk] at cn
    simp only at cn ⊢
    have hlt := Xl hsk
    have cd := Qas c
    have cl := QbR c
    have hT1 := hT.rds hi (c :: r2)
    have hT2 := hT.rds hi r2
    have hp := QlD c r2
    by_cases h1 : isD c = true
    · rw [if_pos h1]
      rw [h1] at cd
      have cI : Opn 133 [.i 1] (c :: r2) (pInt false 1 (c :: r2)) := fun h i hi hT => Qda 1 (.inl rfl) (c :: r2) h1 (by simp only [Qny]; omega) hi hT
      cases hr : pInt false 1 (c :: r2) with
      | err n =>
        rw [hr] at cI
        have c1 := fun L => cI.err hi hT1 L
        refine Qe Tryz.func116 rfl Tryz.call116 Tryz.ntmps116 (congrArg Array.toList Tryz.results116) (by simp) ?_
        repeat (first | ((first | (with_reducible (first | refine Qa fun K E hK hE => ?_ | refine FunW.ret (FunW.call (cn _)) ?_ | refine Qo cd ?_ | refine FunW.panE (FunW.call (c1 _)) fun x => ?_))); simp -implicitDefEqProofs only [Qd, Qb, Qg, OpW, QO, aop, undef, AS.ev, Qc, Qn, Qi, Qw, Qns, AV.QmP, QB, QnF, QnG, Qv, Qt, QM, QnH, ↓reduceIte, Qny, Qnz, Nat.reduceAdd, Nat.reduceLT, Nat.reduceEqDiff, Qnx, QnA, QnE, zi24, f1]) | (with_reducible (first | refine Qh fun K hK => ?_ | refine Qq ?_)) | ((with_reducible refine hK _ ?_); clear hK) | (refine Qk rfl ?_; simp only [↓reduceIte]) | (with_reducible (first | refine hE _ _ ?_ | refine XN ?_ | refine XQ ?_)))
        exact Zv _ _ _ _ _ _
      | ok t r =>
        rw [hr] at cI
        have c1 := fun L => cI.ok hi hT1 L
        refine Qe Tryz.func116 rfl Tryz.call116 Tryz.ntmps116 (congrArg Array.toList Tryz.results116) (by simp) ?_
        repeat (first | ((first | (with_reducible (first | refine Qa fun K E hK hE => ?_ | refine FunW.ret (FunW.call (cn _)) ?_ | refine Qo cd ?_ | refine FunW.ret (FunW.call (c1 _)) ?_))); simp -implicitDefEqProofs only [Qd, Qb, Qg, OpW, QO, aop, undef, AS.ev, Qc, QV, Qn, Qi, Qw, Qns, AV.QmP, QB, QJ, QnF, QnG, Qv, Qt, QM, QC, QnH, ↓reduceIte, Qny, Qnz, Nat.reduceAdd, Nat.reduceLT, Nat.reduceEqDiff, Qnx, QnT, Q5, QW, Qnl, QnP, Qnn, QnA, QnE, T.QmN, T.QmO, ti24, zi24, f1, f4, f6]) | (with_reducible (first | refine Qh fun K hK => ?_ | refine Qq ?_ | refine Ql ?_ | refine Qy ?_ | refine QF ?_)) | ((with_reducible refine hK _ ?_); clear hK) | (refine Qk rfl ?_; simp only [↓reduceIte]))
        simp -implicitDefEqProofs only [Qi, ↓reduceIte, Qny, Qnz, Nat.reduceAdd, Nat.reduceEqDiff, Qnx, QnT, QK, QL, Qnl, Qnr, T.QmN, T.QmO, ti24, QK, QL, f4, T.QmN, T.QmO, QI, Qm, Qu, Qnv]
        exact Qe1 _ _ _ _ _ _
    · rw [if_neg h1]
      rw [Bool.not_eq_true] at h1
      rw [h1] at cd
      by_cases h2 : c.toNat = 45
      · rw [if_pos h2]
        have z1 : ((((c.toNat : Nat) : Int)) == 45) = true := by simp [h2]
        cases r2 with
        | nil =>
          rw [if_neg (by simp [headD])]
          have hz := QfU []
          rw [decide_eq_true rfl] at hz
          have hz2 : (({ data := #[] } : ByteArray).toList == ({ data := #[] } : ByteArray).toList) = true := by simp
          refine Qe Tryz.func116 rfl Tryz.call116 Tryz.ntmps116 (congrArg Array.toList Tryz.results116) (by simp) ?_
          repeat (first | ((first | (with_reducible (first | refine Qa fun K E hK hE => ?_ | refine FunW.ret (FunW.call (cn _)) ?_ | refine Qo cd ?_ | refine FunW.pan (FunW.call (cmn _)) ?_))); simp -implicitDefEqProofs only [Qd, Qb, Qg, OpW, QO, aop, undef, AS.ev, Qc, QV, Qn, Qr, QG, Qi, Qw, Qns, AV.QmP, QB, QU, Xp, QnF, QnG, Qv, Qt, QM, QnH, QnI, ↓reduceIte, Qny, Qnz, Nat.reduceAdd, Nat.reduceLT, Nat.reduceEqDiff, Qnx, QnK, QnT, Qp, QK, QL, Q5, QW, aBin, Yx, Qnl, Qnm, QnP, Qnn, Qn0, Qnq, Qno, QnA, QnE, QS, Qa4, Qnp, beq_true, ti9, ei9, zi24, XS, QX, f1, f2, f3, z1, hp, hz]) | (with_reducible (first | refine Qh fun K hK => ?_ | refine Qq ?_)) | ((with_reducible refine hK _ ?_); clear hK) | (refine Qk rfl ?_; simp only [↓reduceIte, Qnp]) | (with_reducible (first | refine hE _ _ ?_ | refine XN ?_ | refine XQ ?_)))
          exact Zv _ _ _ _ _ _
        | cons d r3 =>
          have hz := QfU (d :: r3)
          rw [decide_eq_false (by simp)] at hz
          have hix := ZD Tryz.prog 9 (by kernel_rfl) (mkB (d :: r3)) (by rw [Xr]; simp)
          rw [Qbo _ 0 (by simp), List.getElem_cons_zero] at hix
          have cd2 := Qas d
          by_cases h3 : isD d = true
          · rw [if_pos (show headD (d :: r3) = true from h3)]
            rw [h3] at cd2
            have cI : Opn 133 [.i (-1)] (d :: r3) (pInt false (-1) (d :: r3)) := fun h i hi hT => Qda (-1) (.inr rfl) (d :: r3) h3 (by simp only [Qny] at hlt ⊢; omega) hi hT
            cases hr : pInt false (-1) (d :: r3) with
            | err n =>
              rw [hr] at cI
              have c1 := fun L => cI.err hi hT2 L
              refine Qe Tryz.func116 rfl Tryz.call116 Tryz.ntmps116 (congrArg Array.toList Tryz.results116) (by simp) ?_
              repeat (first | ((first | (with_reducible (first | refine Qa fun K E hK hE => ?_ | refine FunW.ret (FunW.call (cn _)) ?_ | refine Qo cd ?_ | refine Qo cd2 ?_ | refine Qo cmy ?_ | refine FunW.panE (FunW.call (c1 _)) fun x => ?_))); simp -implicitDefEqProofs only [Qd, Qb, Qg, OpW, QO, aop, undef, AS.ev, Qc, QV, Qn, QG, Qi, Qw, Qns, AV.QmP, QB, QU, Xp, QnF, QnG, Qv, Qt, QM, QnH, QnJ, ↓reduceIte, Qny, Qnz, Nat.reduceAdd, Nat.reduceLT, Nat.reduceEqDiff, Qnx, QnK, QnT, Qp, QK, QL, Q5, QW, aBin, Yx, Qnl, Qnm, QnP, Qnn, Qn0, Qnq, Qno, QnA, QnE, QS, Qa4, Qnt, ti9, ei9, zi24, XS, QX, f1, f2, f3, z1, hp, hz, hix]) | (with_reducible (first | refine Qh fun K hK => ?_ | refine Qq ?_)) | ((with_reducible refine hK _ ?_); clear hK) | (refine Qk rfl ?_; simp only [↓reduceIte, Qnp]) | (with_reducible (first | refine hE _ _ ?_ | refine XN ?_ | refine XQ ?_)))
              exact Zv _ _ _ _ _ _
            | ok t r =>
              rw [hr] at cI
              have c1 := fun L => cI.ok hi hT2 L
              refine Qe Tryz.func116 rfl Tryz.call116 Tryz.ntmps116 (congrArg Array.toList Tryz.results116) (by simp) ?_
              repeat (first | ((first | (with_reducible (first | refine Qa fun K E hK hE => ?_ | refine FunW.ret (FunW.call (cn _)) ?_ | refine Qo cd ?_ | refine Qo cd2 ?_ | refine Qo cmy ?_ | refine FunW.ret (FunW.call (c1 _)) ?_))); simp -implicitDefEqProofs only [Qd, Qb, Qg, OpW, QO, aop, undef, AS.ev, Qc, QV, Qn, QG, Qi, Qw, Qns, AV.QmP, QB, QU, QJ, Xp, QnF, QnG, Qv, Qt, QM, QC, QnH, QnJ, ↓reduceIte, Qny, Qnz, Nat.reduceAdd, Nat.reduceLT, Nat.reduceEqDiff, Qnx, QnK, QnT, Qp, QK, QL, Q5, QW, aBin, Yx, Qnl, Qnm, QnP, Qnn, Qn0, Qnq, Qno, QnA, QnE, QS, Qa4, Qnt, T.QmN, T.QmO, ti9, ei9, ti24, zi24, XS, QX, f1, f2, f3, f4, f6, z1, hp, hz, hix]) | (with_reducible (first | refine Qh fun K hK => ?_ | refine Qq ?_ | refine Ql ?_ | refine Qy ?_ | refine QF ?_)) | ((with_reducible refine hK _ ?_); clear hK) | (refine Qk rfl ?_; simp only [↓reduceIte, Qnp]))
              simp -implicitDefEqProofs only [Qi, ↓reduceIte, Qny, Qnz, Nat.reduceAdd, Nat.reduceEqDiff, Qnx, QnT, QK, QL, Qnl, Qnr, T.QmN, T.QmO, ti24, QK, QL, f4, T.QmN, T.QmO, QI, Qm, Qu, Qnv]
              exact Qe1 _ _ _ _ _ _
          · rw [if_neg (show ¬ headD (d :: r3) = true from h3)]
            rw [Bool.not_eq_true] at h3
            rw [h3] at cd2
            refine Qe Tryz.func116 rfl Tryz.call116 Tryz.ntmps116 (congrArg Array.toList Tryz.results116) (by simp) ?_
            repeat (first | ((first | (with_reducible (first | refine Qa fun K E hK hE => ?_ | refine FunW.ret (FunW.call (cn _)) ?_ | refine Qo cd ?_ | refine Qo cd2 ?_ | refine FunW.pan (FunW.call (cmn _)) ?_))); simp -implicitDefEqProofs only [Qd, Qb, Qg, OpW, QO, aop, undef, AS.ev, Qc, QV, Qn, QG, Qi, Qw, Qns, AV.QmP, QB, QU, Xp, QnF, QnG, Qv, Qt, QM, QnH, QnJ, ↓reduceIte, Qny, Qnz, Nat.reduceAdd, Nat.reduceLT, Nat.reduceEqDiff, Qnx, QnK, QnT, Qp, QK, QL, Q5, QW, aBin, Yx, Qnl, Qnm, QnP, Qnn, Qn0, Qnq, Qno, QnA, QnE, QS, Qa4, Qnt, ti9, ei9, zi24, XS, QX, f1, f2, f3, z1, hp, hz, hix]) | (with_reducible (first | refine Qh fun K hK => ?_ | refine Qq ?_)) | ((with_reducible refine hK _ ?_); clear hK) | (refine Qk rfl ?_; simp only [↓reduceIte, Qnp]) | (with_reducible (first | refine hE _ _ ?_ | refine XN ?_ | refine XQ ?_)))
            exact Zv _ _ _ _ _ _
      · rw [if_neg h2]
        have z1 : ((((c.toNat : Nat) : Int)) == 45) = false := by simp; omega
        by_cases h3 : isL c = true
        · rw [if_pos h3]
          rw [h3] at cl
          have cW : Opn 55 [] (c :: r2) (ZV ex (c :: r2)) := fun h i hi hT => Qd3 H hEat hN c r2 h3 (by simp only [Qny]; omega) h i hi hT
          cases hr : ZV ex (c :: r2) with
          | err n =>
            rw [hr] at cW
            have c1 := fun L => cW.err hi hT1 L
            refine Qe Tryz.func116 rfl Tryz.call116 Tryz.ntmps116 (congrArg Array.toList Tryz.results116) (by simp) ?_
            repeat (first | ((first | (with_reducible (first | refine Qa fun K E hK hE => ?_ | refine FunW.ret (FunW.call (cn _)) ?_ | refine Qo cd ?_ | refine Qo cl ?_ | refine FunW.panE (FunW.call (c1 _)) fun x => ?_))); simp -implicitDefEqProofs only [Qd, Qb, Qg, OpW, QO, aop, undef, AS.ev, Qc, Qn, Qi, Qw, Qns, AV.QmP, QB, QnF, QnG, Qv, Qt, QM, QnH, ↓reduceIte, Qny, Qnz, Nat.reduceAdd, Nat.reduceLT, Nat.reduceEqDiff, Qnx, aBin, Qnn, QnA, QnE, QS, zi24, f1, z1]) | (with_reducible (first | refine Qh fun K hK => ?_ | refine Qq ?_)) | ((with_reducible refine hK _ ?_); clear hK) | (refine Qk rfl ?_; simp only [↓reduceIte, Qnp]) | (with_reducible (first | refine hE _ _ ?_ | refine XN ?_ | refine XQ ?_)))
            exact Zv _ _ _ _ _ _
          | ok t r =>
            rw [hr] at cW
            have c1 := fun L => cW.ok hi hT1 L
            refine Qe Tryz.func116 rfl Tryz.call116 Tryz.ntmps116 (congrArg Array.toList Tryz.results116) (by simp) ?_
            repeat (first | ((first | (with_reducible (first | refine Qa fun K E hK hE => ?_ | refine FunW.ret (FunW.call (cn _)) ?_ | refine Qo cd ?_ | refine Qo cl ?_ | refine FunW.ret (FunW.call (c1 _)) ?_))); simp -implicitDefEqProofs only [Qd, Qb, Qg, OpW, QO, aop, undef, AS.ev, Qc, QV, Qn, Qi, Qw, Qns, AV.QmP, QB, QJ, QnF, QnG, Qv, Qt, QM, QC, QnH, ↓reduceIte, Qny, Qnz, Nat.reduceAdd, Nat.reduceLT, Nat.reduceEqDiff, Qnx, QnT, Q5, QW, aBin, Qnl, QnP, Qnn, QnA, QnE, QS, T.QmN, T.QmO, ti24, zi24, f1, f4, f6, z1]) | (with_reducible (first | refine Qh fun K hK => ?_ | refine Qq ?_ | refine Ql ?_ | refine Qy ?_ | refine QF ?_)) | ((with_reducible refine hK _ ?_); clear hK) | (refine Qk rfl ?_; simp only [↓reduceIte, Qnp]))
            simp -implicitDefEqProofs only [Qi, ↓reduceIte, Qny, Qnz, Nat.reduceAdd, Nat.reduceEqDiff, Qnx, QnT, QK, QL, Qnl, Qnr, T.QmN, T.QmO, ti24, QK, QL, f4, T.QmN, T.QmO, QI, Qm, Qu, Qnv]
            exact Qe1 _ _ _ _ _ _
        · rw [if_neg h3]
          rw [Bool.not_eq_true] at h3
          rw [h3] at cl
          by_cases h4 : c.toNat = 40
          · rw [if_pos h4]
            have z2 : ((((c.toNat : Nat) : Int)) == 40) = true := by simp [h4]
            cases hr : ex r2 with
            | err n =>
              have c1 := fun L => H.err (by omega) hi hT2 L hr
              refine Qe Tryz.func116 rfl Tryz.call116 Tryz.ntmps116 (congrArg Array.toList Tryz.results116) (by simp) ?_
              repeat (first | ((first | (with_reducible (first | refine Qa fun K E hK hE => ?_ | refine FunW.ret (FunW.call (cn _)) ?_ | refine Qo cd ?_ | refine Qo cl ?_ | refine FunW.panE (FunW.call (c1 _)) fun x => ?_))); simp -implicitDefEqProofs only [Qd, Qb, Qg, OpW, QO, aop, undef, AS.ev, Qc, QV, Qn, Qi, Qw, Qns, AV.QmP, QB, QU, Xp, QnF, QnG, Qv, Qt, QM, QnH, ↓reduceIte, Qny, Qnz, Nat.reduceAdd, Nat.reduceLT, Nat.reduceEqDiff, Qnx, QnK, QnT, Qp, QK, QL, Q5, QW, aBin, Yx, Qnl, QnP, Qnn, Qn0, QnA, QnE, QS, ti9, ei9, zi24, XS, QX, f1, f2, f3, z1, z2, hp]) | (with_reducible (first | refine Qh fun K hK => ?_ | refine Qq ?_)) | ((with_reducible refine hK _ ?_); clear hK) | (refine Qk rfl ?_; simp only [↓reduceIte, Qnp]) | (with_reducible (first | refine hE _ _ ?_ | refine XN ?_ | refine XQ ?_)))
              exact Zv _ _ _ _ _ _
            | ok t r =>
              have c1 := fun L => H.ok (by omega) hi hT2 L hr
              simp only
              cases hsk2 : skipSp r with
              | nil =>
                have ct := fun L => Qbg hi (Qh0 hsk2 (k := 41) (by decide)) L
                refine Qe Tryz.func116 rfl Tryz.call116 Tryz.ntmps116 (congrArg Array.toList Tryz.results116) (by simp) ?_
                repeat (first | ((first | (with_reducible (first | refine Qa fun K E hK hE => ?_ | refine FunW.ret (FunW.call (cn _)) ?_ | refine Qo cd ?_ | refine Qo cl ?_ | refine FunW.ret (FunW.call (c1 _)) ?_ | refine FunW.ret (FunW.call (ct _)) ?_ | refine FunW.pan (FunW.call (cmn _)) ?_))); simp -implicitDefEqProofs only [Qd, Qb, Qg, OpW, QO, aop, undef, AS.ev, Qc, QV, Qn, Qi, Qw, Qns, AV.QmP, QB, QU, QJ, Xp, QnF, QnG, Qv, Qt, QM, QC, QnH, ↓reduceIte, Qny, Qnz, Nat.reduceAdd, Nat.reduceLT, Nat.reduceEqDiff, Qnx, QnK, QnT, Qp, QK, QL, Q5, QW, aBin, Yx, hlen, happ, Qnl, Qnm, QnP, QnQ, Qnn, Qn0, QnA, QnE, QnN, QnM, QS, T.QmN, T.QmO, ti9, ei9, ti24, zi24, XS, QX, f1, f2, f3, f5, f7, z1, z2, hp, T.QmN, T.QmO]) | (with_reducible (first | refine Qh fun K hK => ?_ | refine Qq ?_)) | ((with_reducible refine hK _ ?_); clear hK) | (refine Qk rfl ?_; simp only [↓reduceIte, Qnp]) | (with_reducible (first | refine hE _ _ ?_ | refine XN ?_ | refine XQ ?_)))
                exact Zv _ _ _ _ _ _
              | cons d r4 =>
                simp only
                by_cases h5 : d.toNat = 41
                · rw [if_pos h5]
                  have ct := fun L => QdL hi hsk2 (k := 41) (by omega) L
                  refine Qe Tryz.func116 rfl Tryz.call116 Tryz.ntmps116 (congrArg Array.toList Tryz.results116) (by simp) ?_
                  repeat (first | ((first | (with_reducible (first | refine Qa fun K E hK hE => ?_ | refine FunW.ret (FunW.call (cn _)) ?_ | refine Qo cd ?_ | refine Qo cl ?_ | refine FunW.ret (FunW.call (c1 _)) ?_ | refine FunW.ret (FunW.call (ct _)) ?_ | refine Qo cmy ?_))); simp -implicitDefEqProofs only [Qd, Qb, Qg, OpW, QO, aop, undef, AS.ev, Qc, QV, Qn, Qi, Qw, Qns, AV.QmP, QB, QU, QJ, Xp, QnF, QnG, Qv, Qt, QM, QC, QnH, ↓reduceIte, Qny, Qnz, Nat.reduceAdd, Nat.reduceLT, Nat.reduceEqDiff, Qnx, QnK, QnT, Qp, QK, QL, Q5, QW, aBin, Yx, hlen, happ, Qnl, Qnm, QnP, QnQ, Qnn, Qn0, QnA, QnE, QnN, QnM, QS, T.QmN, T.QmO, ti9, ei9, ti24, zi24, XS, QX, f1, f2, f3, f4, f5, f6, f7, z1, z2, hp, T.QmN, T.QmO]) | (with_reducible (first | refine Qh fun K hK => ?_ | refine Qq ?_ | refine Ql ?_ | refine Qy ?_ | refine QF ?_)) | ((with_reducible refine hK _ ?_); clear hK) | (refine Qk rfl ?_; simp only [↓reduceIte, Qnp]))
                  simp -implicitDefEqProofs only [Qi, ↓reduceIte, Qny, Qnz, Nat.reduceAdd, Nat.reduceEqDiff, Qnx, QnT, QK, QL, Qnl, Qnr, T.QmN, T.QmO, ti24, QK, QL, f4, T.QmN, T.QmO, QI, Qm, Qu, Qnv]
                  exact Qe1 _ _ _ _ _ _
                · rw [if_neg h5]
                  have ct := fun L => Qbg hi (Qla hsk2 (k := 41) (by omega)) L
                  refine Qe Tryz.func116 rfl Tryz.call116 Tryz.ntmps116 (congrArg Array.toList Tryz.results116) (by simp) ?_
                  repeat (first | ((first | (with_reducible (first | refine Qa fun K E hK hE => ?_ | refine FunW.ret (FunW.call (cn _)) ?_ | refine Qo cd ?_ | refine Qo cl ?_ | refine FunW.ret (FunW.call (c1 _)) ?_ | refine FunW.ret (FunW.call (ct _)) ?_ | refine FunW.pan (FunW.call (cmn _)) ?_))); simp -implicitDefEqProofs only [Qd, Qb, Qg, OpW, QO, aop, undef, AS.ev, Qc, QV, Qn, Qi, Qw, Qns, AV.QmP, QB, QU, QJ, Xp, QnF, QnG, Qv, Qt, QM, QC, QnH, ↓reduceIte, Qny, Qnz, Nat.reduceAdd, Nat.reduceLT, Nat.reduceEqDiff, Qnx, QnK, QnT, Qp, QK, QL, Q5, QW, aBin, Yx, hlen, happ, Qnl, Qnm, QnP, QnQ, Qnn, Qn0, QnA, QnE, QnN, QnM, QS, T.QmN, T.QmO, ti9, ei9, ti24, zi24, XS, QX, f1, f2, f3, f5, f7, z1, z2, hp, T.QmN, T.QmO]) | (with_reducible (first | refine Qh fun K hK => ?_ | refine Qq ?_)) | ((with_reducible refine hK _ ?_); clear hK) | (refine Qk rfl ?_; simp only [↓reduceIte, Qnp]) | (with_reducible (first | refine hE _ _ ?_ | refine XN ?_ | refine XQ ?_)))
                  exact Zv _ _ _ _ _ _
          · rw [if_neg h4]
            have z2 : ((((c.toNat : Nat) : Int)) == 40) = false := by simp; omega
            refine Qe Tryz.func116 rfl Tryz.call116 Tryz.ntmps116 (congrArg Array.toList Tryz.results116) (by simp) ?_
            repeat (first | ((first | (with_reducible (first | refine Qa fun K E hK hE => ?_ | refine Qs fun K E hK hE => ?_ | refine FunW.ret (FunW.call (cn _)) ?_ | refine Qo cd ?_ | refine Qo cl ?_))); simp -implicitDefEqProofs only [Qd, Qb, Qg, OpW, QO, aop, undef, AS.ev, Qc, Qn, Qi, Qw, Qns, AV.QmP, QB, QnF, QnG, Qv, Qt, QM, QnH, ↓reduceIte, Qny, Qnz, Nat.reduceAdd, Nat.reduceLT, Nat.reduceEqDiff, Qnx, aBin, Qnn, QnA, QnE, QS, zi24, un38, f1, z1, z2]) | (with_reducible (first | refine Qh fun K hK => ?_ | refine Qq ?_ | refine QA ?_ | refine Qj ?_ | refine QD ?_)) | ((with_reducible refine hK _ ?_); clear hK) | (refine Qk rfl ?_; simp only [↓reduceIte, Qnp]) | (with_reducible refine hE _ _ ?_))
            exact Zv _ _ _ _ _ _
end Go.Proofs.YtehjodmnajgdgaaGreatDoor.Ab
set_option maxRecDepth 4000
namespace Go.Proofs.YtehjodmnajgdgaaGreatDoor.Ab
open Go.Proofs
theorem QhR {g : List UInt8 → Res T} {N : Nat} (H : Rdr 116 g N) (hEat : Eats 0 g) (hN : N ≤ 1000000) : Rdr 87 (chain g 2) N := by
  intro l hl h i hi hT
  have f1 := X3 h i
  have f4 := fun x L => ZN (h := h) (i := i) x L
  have f6 := fun x y L => ZA (h := h) (i := i) x y L
  cases hr : chain g 2 l with
  | err n =>
    have c1 : ∀ L, Xd Tryz.prog 86 [.ptr i 0 0, .i 2, .fn (.func 116) [.ptr i 0 0] []] (hs h i (rd l) ++ L) fun o h' => o = .panic (Err n) ∧ ∃ r, h' = hs h i (rd r) ++ L := fun L => by
      have := Qbj H hEat 2 (by decide) hN l hl (h ++ L) i (by rw [List.length_append]; omega) (by rw [X2 hi]; exact hT.app L)
      rw [X2 hi, hr] at this
      exact this.mono fun o h' q => by simpa only [RQ, X2 hi] using q
    refine Qe Tryz.func87 rfl Tryz.call87 Tryz.ntmps87 (congrArg Array.toList Tryz.results87) (by simp) ?_
    repeat (first | ((first | (with_reducible (first | refine Qa fun K E hK hE => ?_ | refine FunW.panE (FunW.call (c1 _)) fun x => ?_))); simp -implicitDefEqProofs only [Qd, Qb, Qg, OpW, QO, aop, undef, AS.ev, Qc, Qn, Qi, Qw, Qns, AV.QmP, QB, QnF, QnG, Qv, Qt, QM, QnH, ↓reduceIte, Qny, Qnz, Nat.reduceAdd, Nat.reduceLT, Nat.reduceEqDiff, Qnx, QnA, QnE, zi24, f1]) | ((with_reducible refine hK _ ?_); clear hK) | (with_reducible refine hE _ _ ?_))
    exact Zv _ _ _ _ _ _
  | ok t r =>
    have c1 : ∀ L, Xd Tryz.prog 86 [.ptr i 0 0, .i 2, .fn (.func 116) [.ptr i 0 0] []] (hs h i (rd l) ++ L) fun o h' => o = .ret t.av ∧ h' = hs h i (rd r) ++ L := fun L => by
      have := Qbj H hEat 2 (by decide) hN l hl (h ++ L) i (by rw [List.length_append]; omega) (by rw [X2 hi]; exact hT.app L)
      rw [X2 hi, hr] at this
      exact this.mono fun o h' q => by simpa only [RQ, X2 hi] using q
    refine Qe Tryz.func87 rfl Tryz.call87 Tryz.ntmps87 (congrArg Array.toList Tryz.results87) (by simp) ?_
    repeat (first | ((first | (with_reducible (first | refine Qa fun K E hK hE => ?_ | refine FunW.ret (FunW.call (c1 _)) ?_))); simp -implicitDefEqProofs only [Qd, Qb, Qg, OpW, QO, aop, undef, AS.ev, Qc, QV, Qn, Qi, Qw, Qns, AV.QmP, QB, QJ, QnF, QnG, Qv, Qt, QM, QC, QnH, ↓reduceIte, Qny, Qnz, Nat.reduceAdd, Nat.reduceLT, Nat.reduceEqDiff, Qnx, QnT, Q5, QW, Qnl, QnP, Qnn, QnA, QnE, T.QmN, T.QmO, ti24, zi24, f1, f4, f6]) | (with_reducible refine Ql ?_) | ((with_reducible refine hK _ ?_); clear hK))
    simp -implicitDefEqProofs only [Qi, ↓reduceIte, Qny, Qnz, Nat.reduceAdd, Nat.reduceEqDiff, Qnx, QnT, Qnl, Qnr, T.QmN, T.QmO, ti24, QK, QL, f4, T.QmN, T.QmO, QI, Qm, Qu, Qnv]
    exact Qe1 _ _ _ _ _ _
theorem Qll {g : List UInt8 → Res T} {N : Nat} (H : Rdr 87 g N) (hEat : Eats 0 g) (hN : N ≤ 1000000) : Rdr 49 (chain g 1) N := by
  intro l hl h i hi hT
  have f1 := X3 h i
  have f4 := fun x L => ZN (h := h) (i := i) x L
  have f6 := fun x y L => ZA (h := h) (i := i) x y L
  cases hr : chain g 1 l with
  | err n =>
    have c1 : ∀ L, Xd Tryz.prog 86 [.ptr i 0 0, .i 1, .fn (.func 87) [.ptr i 0 0] []] (hs h i (rd l) ++ L) fun o h' => o = .panic (Err n) ∧ ∃ r, h' = hs h i (rd r) ++ L := fun L => by
      have := Qbj H hEat 1 (by decide) hN l hl (h ++ L) i (by rw [List.length_append]; omega) (by rw [X2 hi]; exact hT.app L)
      rw [X2 hi, hr] at this
      exact this.mono fun o h' q => by simpa only [RQ, X2 hi] using q
    refine Qe Tryz.func49 rfl Tryz.call49 Tryz.ntmps49 (congrArg Array.toList Tryz.results49) (by simp) ?_
    repeat (first | ((first | (with_reducible (first | refine Qa fun K E hK hE => ?_ | refine FunW.panE (FunW.call (c1 _)) fun x => ?_))); simp -implicitDefEqProofs only [Qd, Qb, Qg, OpW, QO, aop, undef, AS.ev, Qc, Qn, Qi, Qw, Qns, AV.QmP, QB, QnF, QnG, Qv, Qt, QM, QnH, ↓reduceIte, Qny, Qnz, Nat.reduceAdd, Nat.reduceLT, Nat.reduceEqDiff, Qnx, QnA, QnE, zi24, f1]) | ((with_reducible refine hK _ ?_); clear hK) | (with_reducible refine hE _ _ ?_))
    exact Zv _ _ _ _ _ _
  | ok t r =>
    have c1 : ∀ L, Xd Tryz.prog 86 [.ptr i 0 0, .i 1, .fn (.func 87) [.ptr i 0 0] []] (hs h i (rd l) ++ L) fun o h' => o = .ret t.av ∧ h' = hs h i (rd r) ++ L := fun L => by
      have := Qbj H hEat 1 (by decide) hN l hl (h ++ L) i (by rw [List.length_append]; omega) (by rw [X2 hi]; exact hT.app L)
      rw [X2 hi, hr] at this
      exact this.mono fun o h' q => by simpa only [RQ, X2 hi] using q
    refine Qe Tryz.func49 rfl Tryz.call49 Tryz.ntmps49 (congrArg Array.toList Tryz.results49) (by simp) ?_
    repeat (first | ((first | (with_reducible (first | refine Qa fun K E hK hE => ?_ | refine FunW.ret (FunW.call (c1 _)) ?_))); simp -implicitDefEqProofs only [Qd, Qb, Qg, OpW, QO, aop, undef, AS.ev, Qc, QV, Qn, Qi, Qw, Qns, AV.QmP, QB, QJ, QnF, QnG, Qv, Qt, QM, QC, QnH, ↓reduceIte, Qny, Qnz, Nat.reduceAdd, Nat.reduceLT, Nat.reduceEqDiff, Qnx, QnT, Q5, QW, Qnl, QnP, Qnn, QnA, QnE, T.QmN, T.QmO, ti24, zi24, f1, f4, f6]) | (with_reducible refine Ql ?_) | ((with_reducible refine hK _ ?_); clear hK))
    simp -implicitDefEqProofs only [Qi, ↓reduceIte, Qny, Qnz, Nat.reduceAdd, Nat.reduceEqDiff, Qnx, QnT, Qnl, Qnr, T.QmN, T.QmO, ti24, QK, QL, f4, T.QmN, T.QmO, QI, Qm, Qu, Qnv]
    exact Qe1 _ _ _ _ _ _
theorem ZI : ∀ n, n ≤ 900000 → Rdr 49 (YA false n) n
  | 0, _ => fun l hl => absurd hl (Nat.not_lt_zero _)
  | n + 1, hn => by
    have H := ZI n (by omega)
    have h1 := Qg0 H (Yg false n) (by omega)
    have e1 := (Qbd false (Yg false n)).zero
    have h2 := QhR h1 e1 (by omega)
    exact Qll h2 (ZF e1 2) (by omega)
end Go.Proofs.YtehjodmnajgdgaaGreatDoor.Ab
namespace Go.Proofs.YtehjodmnajgdgaaGreatDoor.Ab
theorem Qa8 {P : Program} {f : FuncId} {fn : Func} {id x : Nat} {t1 : TypeId} {p1 : String} {a1 : Array Edge} {rest : Code} {args : List AV} {h : AH} {Q : AH → Prop} (hf : P.funcs[f]? = some fn)
    (hb : fn.body = some (.seq (.region id #[{ dst := some x, op := .call ⟨.builtin .recover, #[], #[]⟩, type := t1, pos := p1, after := a1, guard := none }] false) rest))
    (hcall : ∀ vals w, (callFunc f vals).run P w = .ok (.enter f vals) w) {N : Nat} (hN : fn.ntmps = N) {rs : List ResultVar} (hrs : fn.results.toList = rs) (hn : args.length ≤ N) (hx : x < N) (m : AMode)
    (H : Yl P N rest (QI P rs h fun o h' => (∃ r, o = .ret r) ∧ Q h') ⟨upd (Qw args) x (recV m), h⟩) : Zx P f args h m fun m' h' => m' = recM m ∧ Q h' := by
  subst hN
  refine ⟨hcall, fun F n c vals u hF hro hs hh hvals hm => ?_⟩
  subst hh
  have hsr0 : SRd fn.ntmps c.w.heap.size c ⟨Qw args, c.h⟩ { tmps := vals ++ Array.replicate (fn.ntmps - vals.size) undef, defers := [] } [] := by
    refine ⟨rfl, by have := hvals.1; simp; omega, Nat.le_refl _, ⟨[], rfl, rfl, List.nodup_nil, fun e h => by cases h⟩, fun t => ?_⟩
    simp only [Qw]
    rw [Array.getD_eq_getD_getElem?, Array.getElem?_append, List.getD_eq_getElem?_getD]
    have hsz := hvals.1
    by_cases ht : t < vals.size
    · rw [if_pos ht]
      obtain ⟨u, hu⟩ : ∃ u, vals[t]? = some u := ⟨_, Array.getElem?_eq_getElem ht⟩
      obtain ⟨a, ha⟩ : ∃ a, args[t]? = some a := ⟨_, List.getElem?_eq_getElem (by omega)⟩
      rw [hu, ha]
      exact hvals.2 t a u ha hu
    · rw [if_neg ht, List.getElem?_eq_none (by omega), Array.getElem?_replicate]
      split
      · exact .v _
      · exact .v _
  -- what recover does to the frame below
  obtain ⟨rv, u2, hrel, hm2, hrec⟩ : ∃ (rv : Value) (u2 : FrameMode), Rel c (recV m) rv ∧ MdC c (recM m) u2 ∧ ∀ (c₀ : Frame) (cs : List Frame), c₀.mode = u →
      (recoverD (c₀ :: cs) = some (rv, { c₀ with mode := u2 } :: cs)) ∨ (recoverD (c₀ :: cs) = none ∧ rv = .nilIface ∧ ({ c₀ with mode := u2 } : Frame) = c₀) := by
    cases m with
    | ret =>
      obtain rfl : u = .returning := hm
      refine ⟨.nilIface, .returning, .v _, rfl, fun c₀ cs hu => .inr ⟨?_, rfl, by rw [← hu]⟩⟩
      simp only [recoverD, hu]
    | pan v b =>
      obtain ⟨xv, rfl, hv⟩ := hm
      cases b with
      | false =>
        refine ⟨xv, _, hv, ⟨xv, rfl, hv⟩, fun c₀ cs hu => .inl ?_⟩
        simp only [recoverD, hu]
      | true =>
        refine ⟨.nilIface, _, .v _, ⟨xv, rfl, hv⟩, fun c₀ cs hu => .inr ⟨?_, rfl, by rw [← hu]⟩⟩
        simp only [recoverD, hu]
  have hsr : SRd fn.ntmps c.w.heap.size c ⟨upd (Qw args) x (recV m), c.h⟩ ((⟨vals ++ Array.replicate (fn.ntmps - vals.size) undef, []⟩ : Act).put (some x) rv) [] := by
    have s1 := (hsr0.sr hro).put hs (Ev.refl c) (some x) hrel
    have s3 := hsr0.Qnc hs (Ev.refl c) s1
    simp only [AS.put, if_pos hx] at s3
    exact s3
  refine (QaS (u2 := u2) (R := fun e w' => ∃ (o : AOut) (c' : Cx), ((∃ r, o = AOut.ret r) ∧ Q c'.h) ∧ Ev c c' ∧ St c' ∧ c'.w = w' ∧ EndC c' o e) hf hb (hF.fn f) (fun c₀ cs hu => ?_) hro).mono ?_
  · apply wpSIn_seq
    apply wpSIn_region
    have hput : ∀ cs', cs' = ({ c₀ with mode := u2 } : Frame) :: cs → rest.wpSIn F n P (fun e a' cs'' w' => cs'' = { c₀ with mode := u2 } :: cs ∧ bodyPostM F n P fn (fun e w' => ∃ (o : AOut) (c' : Cx), ((∃ r, o = AOut.ret r) ∧ Q c'.h) ∧ Ev c c' ∧ St c' ∧ c'.w = w' ∧ EndC c' o e) e a' w')
        ((⟨vals ++ Array.replicate (fn.ntmps - vals.size) undef, []⟩ : Act).put (some x) rv) cs' c.w := by
      rintro cs' rfl
      refine wpSIn_of_wpIn hro ?_
      refine XI (H.mono fun e s hq => (by cases e <;> exact hq : Qf2 P rs c.h (fun o h' => (∃ r, o = AOut.ret r) ∧ Q h') e s [])) F n c.w.heap.size c _ hF hro hs hsr _ ?_
      intro e s' ds' c' a' e' hQ hev hst hr hex
      obtain ⟨es, e1, e2, e3, e4⟩ := hr.defs
      subst e2
      have hout : Out fn.ntmps c' s' a'.tmps := ⟨hr.h, hr.size, hr.tm⟩
      have key := fun (m : AMode) (u : FrameMode) (hm : MdC c' m u) (hnr : ∀ v, m ≠ .pan v true) H => e1 ▸ Qae (P := P) hF hro (n := n) (fn := fn) (tmps := a'.tmps) hrs (Q := fun o h' => (∃ r, o = AOut.ret r) ∧ Q h') hs es c' s' m u hev hst hout e3 e4 hm hnr H
      refine ⟨rfl, ?_⟩
      cases e with
      | normal => cases hex; exact key .ret .returning rfl (fun v h => by cases h) hQ
      | ret => cases hex; exact key .ret .returning rfl (fun v h => by cases h) hQ
      | panic av =>
        obtain ⟨x, rfl, hx⟩ := hex
        exact key (.pan av false) _ ⟨x, rfl, hx⟩ (fun v h => by cases h) hQ
      | exit id => exact hQ.elim
    show wpOpsSIn F n P _ _ [0] _ _ _
    rcases hrec c₀ cs hu with hr | ⟨hr, rfl, hc⟩
    · simp [wpOpsSIn, Region.wanted, execOp, go_sem, resolve, invoke, hr, hF.fn, Exit.thenS]
      exact hput _ rfl
    · simp [wpOpsSIn, Region.wanted, execOp, go_sem, resolve, invoke, hr, hF.fn, Exit.thenS]
      exact hput _ (by rw [hc])
  · rintro e u' w' ⟨rfl, o, c', ⟨⟨r, rfl⟩, hQ⟩, hev, hst', rfl, xx, rfl, hx'⟩
    exact ⟨xx, recM m, c', rfl, ⟨rfl, hQ⟩, hev, hst', rfl, hm2.ev hs hev⟩
end Go.Proofs.YtehjodmnajgdgaaGreatDoor.Ab
set_option maxRecDepth 4000
namespace Go.Proofs.YtehjodmnajgdgaaGreatDoor.Ab
open Go.Proofs
abbrev eE (e : Int) : AB := .cells 38 1 [.i e]
theorem Qkn {h : AH} {k : Nat} {e0 : Int} (hk : h[k]? = some (eE e0)) : Zx Tryz.prog 84 [.ptr k 0 0] h .ret fun m' h' => m' = .ret ∧ h' = h := by
  refine Zx.mono (Qa8 (Q := fun h' => h' = h) Tryz.func84 rfl Tryz.call84 Tryz.ntmps84 (congrArg Array.toList Tryz.results84) (by simp) (by decide) .ret ?_) (fun m' h' q => q)
  have hn := QhC
  have hn2 : ∀ xo yo, pv Tryz.prog (do eqGuard .eql 20 xo yo .nilIface .nilIface; binOp .eql 20 .nilIface .nilIface) = some (.bool true) := fun xo yo => by
    cases xo <;> cases yo <;> kernel_rfl
  repeat (first | ((first | (with_reducible (first | refine Qa fun K E hK hE => ?_ | refine Qs fun K E hK hE => ?_))); simp -implicitDefEqProofs only [Qd, Qb, Qg, OpW, aop, AS.ev, Qc, Xz, Qi, ↓reduceIte, Nat.reduceLT, Nat.reduceEqDiff, aBin, Qnn, recV, hn2]) | (with_reducible (first | refine Qq ?_ | refine QD ?_)) | ((with_reducible refine hK _ ?_); clear hK) | (refine Qk rfl ?_; simp only [↓reduceIte]))
  simp -implicitDefEqProofs only [Qnn, Qnr, List.mapM_nil, Option.pure_def, Qnn, QI, Qm, Qnv]
  exact .inr ⟨⟨_, rfl⟩, rfl⟩
theorem QjJ {h : AH} {k : Nat} {e0 : Int} (hk : h[k]? = some (eE e0)) (e : Int) : Zx Tryz.prog 84 [.ptr k 0 0] h (.pan (Err e) false) fun m' h' => m' = .pan (Err e) true ∧ h' = h.set k (eE e) := by
  refine Zx.mono (Qa8 (Q := fun h' => h' = h.set k (eE e)) Tryz.func84 rfl Tryz.call84 Tryz.ntmps84 (congrArg Array.toList Tryz.results84) (by simp) (by decide) (.pan (Err e) false) ?_) (fun m' h' q => q)
  have hn : ∀ H, notNil Tryz.prog 20 H (.ifc 38 (.i e)) .nilIface = true := fun H => by kernel_rfl
  have ha : QfH Tryz.prog (.ifc 38 (.i e)) 20 38 true = some (.tup [.i e, .v (.bool true)]) := by kernel_rfl
  repeat (first | ((first | (with_reducible (first | refine Qa fun K E hK hE => ?_ | refine Qs fun K E hK hE => ?_))); simp -implicitDefEqProofs only [Qd, Qb, Qg, OpW, aop, undef, AS.ev, Qc, QV, Xz, Qi, Qw, Qns, AV.QmP, QU, Xp, QnF, QnG, Qv, QnH, ↓reduceIte, Qny, Qnz, Nat.reduceLT, Nat.reduceEqDiff, Qnx, QnT, Q5, QW, aBin, XB, Qnl, Qnm, QnP, Qnn, ti38, recV, Err, hn, ha, hk, eE]) | (with_reducible (first | refine Qq ?_ | refine QD ?_)) | ((with_reducible refine hK _ ?_); clear hK) | (refine Qk rfl ?_; simp only [↓reduceIte, Qnp]))
  simp -implicitDefEqProofs only [Qnn, Qnr, List.mapM_nil, Option.pure_def, Qnn, QI, Qm, Qnv]
  exact .inr ⟨⟨_, rfl⟩, rfl⟩
def QbC (b : Bool) (r : List UInt8) : Int := if skipSp r ≠ [] then 16 else if b then 0 else 6
theorem QgL (l : List UInt8) (fv : AV) (hl : 16384 < l.length) (hm : l.length ≤ 9223372036854775807) : Pure Tryz.prog 47 [.v (.string (mkB l)), fv] (.i 6) := by
  intro h
  have hsl := fun b => YB Tryz.prog 9 3 (by kernel_rfl) b
  have z1 : ((l.length : Nat) : Int) > 16384 := by omega
  refine Zj Tryz.func47 rfl Tryz.call47 Tryz.ntmps47 (congrArg Array.toList Tryz.results47) (by simp) ?_
  refine X0 (XI ?_)
  repeat (first | (((with_reducible refine Qs fun K E hK hE => ?_)); simp -implicitDefEqProofs only [Qd, Qb, Qg, OpW, aop, Qc, AV.QmP, QU, QnF, QnG, Qv, QnH, ↓reduceIte, Qny, Qnz, Nat.reduceLT, Qnx, zi38]) | ((with_reducible refine hK _ ?_); clear hK))
  show DefW _ _ _ _ _ _
  refine X0 (XI ?_)
  repeat (first | (((with_reducible refine Qa fun K E hK hE => ?_)); simp -implicitDefEqProofs only [Qd, Qb, Qg, OpW, aop, undef, AS.ev, Qc, QV, Qn, Qi, Qw, Qns, AV.QmP, QU, Xp, QnF, QnG, Qv, QnH, ↓reduceIte, Qny, Qnz, Nat.reduceLT, Nat.reduceEqDiff, Qnx, QnT, Q5, QW, aBin, aLen, QT, YQ, Qnl, QnP, Qnn, Xg, goInt, QnR, ti38, hsl, Xr, z1]) | (with_reducible refine Ql ?_) | ((with_reducible refine hK _ ?_); clear hK) | (refine Qk rfl ?_; simp only [↓reduceIte]))
  simp only [AExit.Qnf, Qf2, Qdn]
  simp -implicitDefEqProofs only [Qi, QU, ↓reduceIte, Nat.reduceEqDiff, QK, QL, QT, Qnl, Qnr, ti38, QI, Qm, Qu, Qnv]
  exact Qf (htake _ _) (.keep (.v _)) ⟨rfl, rfl⟩
theorem panQ {P : Program} {rs : List ResultVar} {h H : AH} {Q : AOut → AH → Prop} {tm : Nat → AV} {e : Int} {k : Nat} (hP : P = Tryz.prog) (hk : H[k]? = some (eE 0)) (hq : QI P rs h Q .ret ⟨tm, H.set k (eE e)⟩) :
    Qdn P rs h Q [(84, [.ptr k 0 0])] (.pan (Err e) false) ⟨tm, H⟩ := by
  subst hP
  simp only [Qdn]
  refine Zx.mono (QjJ hk e) ?_
  rintro m' h' ⟨rfl, rfl⟩
  exact hq
theorem retQ {P : Program} {rs : List ResultVar} {h H : AH} {Q : AOut → AH → Prop} {tm : Nat → AV} {e : Int} {k : Nat} (hP : P = Tryz.prog) (hk : H[k]? = some (eE e)) (hq : QI P rs h Q .ret ⟨tm, H⟩) :
    Qdn P rs h Q [(84, [.ptr k 0 0])] .ret ⟨tm, H⟩ := by
  subst hP
  simp only [Qdn]
  refine Zx.mono (Qkn hk) ?_
  rintro m' h' ⟨rfl, rfl⟩
  exact hq
section
variable {h : AH} {k : Nat} (hk : k < h.length) (x y : AB) (hy : y.Below h.length) (l : List UInt8) (fv : AV) (hl : l.length ≤ 16384)
include hk hy hl
theorem QkM (b : Bool) (r : List UInt8)
    (H : FunW Tryz.prog fv [.ptr (h.length + 1) 0 0] (hs h k x ++ [eE 0, rd l]) fun o h' => o = .ret (.b b) ∧ h' = hs h k y ++ [eE 0, rd r]) :
    Xd Tryz.prog 47 [.v (.string (mkB l)), fv] (hs h k x) fun o h' => o = .ret (.i (QbC b r)) ∧ h' = hs h k y := by
  have _u := hk
  have f1 := fun x => X3 h k x
  have f4 := fun x L => ZN (h := h) (i := k) x L
  have f5 := fun x L j => Qge (h := h) (i := k) x L j
  have f6 := fun x y L => ZA (h := h) (i := k) x y L
  have f7 := fun x y L j => Z9 (h := h) (i := k) x y L j
  have hsl := fun b => YB Tryz.prog 9 3 (by kernel_rfl) b
  have z1 : ¬ ((l.length : Nat) : Int) > 16384 := by omega
  have e3 : AB.cells 100 1 [.v (.string (mkB l))] = rd l := rfl
  have h1 : ∀ z : AB, h.length + 1 < (hs h k y ++ [eE 0, z]).length := fun z => by rw [List.length_append, X3]; show h.length + 1 < h.length + 2; omega
  have e1 : ∀ z w : AB, hs (hs h k y ++ [eE 0, z]) (h.length + 1) w = hs h k y ++ [eE 0, w] := fun z w => by
    show List.set _ _ _ = _
    rw [f7]; rfl
  have cs := QcO (h1 (rd r)) r []
  simp only [QnO, e1] at cs
  have cy := fun n => ZW n
  have cn := fun n H => QbO n H
  have hz := QfU (skipSp r)
  have hget : (hs h k y ++ [eE 0, rd (skipSp r)])[h.length + 1]? = some (.cells 100 1 [.v (.string (mkB (skipSp r)))]) := by rw [f5]; rfl
  have hset : ∀ e, (hs h k y ++ [eE 0, rd (skipSp r)]).set h.length (eE e) = hs h k y ++ [eE e, rd (skipSp r)] := fun e => by rw [f6]; rfl
  have hEr : (hs h k y ++ [eE 0, rd (skipSp r)])[h.length]? = some (eE 0) := by rw [f4]; rfl
  refine Zj Tryz.func47 rfl Tryz.call47 Tryz.ntmps47 (congrArg Array.toList Tryz.results47) (by simp) ?_
  refine X0 (XI ?_)
  repeat (first | (((with_reducible refine Qs fun K E hK hE => ?_)); simp -implicitDefEqProofs only [Qd, Qb, Qg, OpW, aop, Qc, AV.QmP, QU, QnF, QnG, Qv, QnH, ↓reduceIte, Qny, Qnz, Nat.reduceLT, Qnx, zi38, f1]) | ((with_reducible refine hK _ ?_); clear hK))
  show DefW _ _ _ _ _ _
  refine X0 (XI ?_)
  repeat (first | (((with_reducible refine Qa fun K E hK hE => ?_)); simp -implicitDefEqProofs only [Qd, Qb, Qg, OpW, aop, undef, AS.ev, Qc, Qn, Qi, Qw, Qns, ↓reduceIte, Nat.reduceLT, Nat.reduceEqDiff, aBin, aLen, Qnn, Xg, goInt, QnS, hsl, Xr, z1]) | (with_reducible refine QA ?_) | ((with_reducible refine hK _ ?_); clear hK) | (refine Qk rfl ?_; simp only [↓reduceIte, Qnp]))
  show DefW _ _ _ _ _ _
  refine X0 (QbQ 1 rfl rfl rfl ?_)
  simp -implicitDefEqProofs only [Qd, Qb, Qg, OpW, aop, undef, AS.ev, Qc, QV, Qi, ↓reduceIte, Nat.reduceAdd, Nat.reduceLT, Nat.reduceEqDiff, QnU, QnA, QnE, QnO, Qnw, QnD, Qnu, QnC]
  refine ⟨_, _, _, rfl, ?_⟩
  show DefW _ _ _ _ _ _
  refine X0 (XI ?_)
  repeat (first | (((with_reducible refine Qs fun K E hK hE => ?_)); simp -implicitDefEqProofs only [Qd, Qb, Qg, OpW, aop, undef, AS.ev, Qc, Qi, Qw, Qns, AV.QmP, QB, QU, QJ, QnF, QnG, Qt, QnH, ↓reduceIte, Qny, Qnz, Nat.reduceLT, Nat.reduceLeDiff, Nat.reduceEqDiff, Qnx, QnT, X4, Yj, hlen, happ, Qnl, Qnn, QnA, QnE, QnN, QnM, QnO, QnD, Qnu, QnC, QmB, QmD, f1]) | ((with_reducible refine hK _ ?_); clear hK))
  show DefW _ _ _ _ _ _
  refine X0 (XI ?_)
  refine QbL (h.length + 1) 100 1 [.agg [.v (.string (mkB l))]] [.v (.string (mkB l))] (by simp only [f5]; rfl) (by intro x hx; simp at hx; subst hx; rfl) (.cons (.refl _) .nil) ?_
  simp only [f7, QnQ, QnP, e3]
  repeat (first | ((first | (with_reducible (first | refine Qs fun K E hK hE => ?_ | refine FunW.ret H ?_))); simp -implicitDefEqProofs only [Qd, Qb, Qg, OpW, QO, aop, undef, AS.ev, Qc, Qi, Qw, Qns, QnL, ↓reduceIte, Nat.reduceLT, Nat.reduceEqDiff, QnA, QnE]) | ((with_reducible refine hK _ ?_); clear hK))
  show DefW _ _ _ _ _ _
  refine X0 (XI ?_)
  repeat (first | ((first | (with_reducible (first | refine Qs fun K E hK hE => ?_ | refine FunW.ret (FunW.call cs) ?_))); simp -implicitDefEqProofs only [Qd, Qb, Qg, OpW, QO, aop, AS.ev, Qc, Qi, ↓reduceIte, Nat.reduceLT, Nat.reduceEqDiff, QnA, QnE]) | ((with_reducible refine hK _ ?_); clear hK))
  show DefW _ _ _ _ _ _
  refine X0 (XI ?_)
  by_cases hsk : skipSp r = []
  · rw [decide_eq_true hsk] at hz
    repeat (first | ((first | (with_reducible (first | refine Qs fun K E hK hE => ?_ | refine Qo (cy 16) ?_))); simp -implicitDefEqProofs only [Qd, Qb, Qg, OpW, QO, aop, AS.ev, Qc, Qn, QG, Qi, QU, ↓reduceIte, Nat.reduceLT, Nat.reduceEqDiff, QnK, Qp, QK, QL, aBin, Qnl, Qnn, QnA, QnE, QY, ti9, XS, QX, hget, hz]) | ((with_reducible refine hK _ ?_); clear hK))
    show DefW _ _ _ _ _ _
    cases b with
    | true =>
      refine X0 (XI ?_)
      repeat (first | ((first | (with_reducible (first | refine Qs fun K E hK hE => ?_ | refine Qo (cy 6) ?_))); simp -implicitDefEqProofs only [Qd, Qb, Qg, OpW, QO, aop, AS.ev, Qc, Qn, Qi, ↓reduceIte, Nat.reduceLT, Nat.reduceEqDiff, QnA, QnE]) | ((with_reducible refine hK _ ?_); clear hK))
      show DefW _ _ _ _ _ _
      refine XI ?_
      repeat (first | (((with_reducible refine Qa fun K E hK hE => ?_)); simp -implicitDefEqProofs only [Qd, Qb, Qg, OpW, aop, undef, AS.ev, QV, Qn, Qi, AV.QmP, QU, Xp, QnF, QnG, Qv, QnH, ↓reduceIte, Qny, Qnz, Nat.reduceEqDiff, Qnx, QnT, Q5, QW, Qnl, QnP, Qnn, ti38, hset, hEr]) | (with_reducible refine Ql ?_) | ((with_reducible refine hK _ ?_); clear hK))
      simp only [Qf2]
      refine retQ (e := 0) rfl (by first | exact hEr | (rw [f4]; rfl)) ?_
      simp -implicitDefEqProofs only [Qi, QU, ↓reduceIte, Nat.reduceEqDiff, QK, QL, Qnl, Qnr, ti38, QK, QL, f4, QI, Qm, Qu, Qnv]
      refine Xc hy (.keep (.v _)) ⟨?_, rfl⟩
      rw [QbC, if_neg (by simp [hsk])]; rfl
    | false =>
      refine X0 (XI ?_)
      repeat (first | ((first | (with_reducible (first | refine Qs fun K E hK hE => ?_ | refine FunW.pan (FunW.call (cn 6 _)) ?_))); simp -implicitDefEqProofs only [Qb, Qg, OpW, QO, aop, AS.ev, Qc, Qn, Qi, ↓reduceIte, Nat.reduceLT, Nat.reduceEqDiff, QnA, QnE]) | (with_reducible refine hE _ _ ?_))
      simp only [AExit.Qnf, Qf2]
      refine panQ rfl hEr ?_
      rw [hset]
      simp -implicitDefEqProofs only [Qi, QU, ↓reduceIte, Nat.reduceEqDiff, QK, QL, Qnl, Qnr, ti38, QK, QL, f4, QI, Qm, Qu, Qnv]
      refine Xc hy (.keep (.v _)) ⟨?_, rfl⟩
      rw [QbC, if_neg (by simp [hsk])]; rfl
  · rw [decide_eq_false hsk] at hz
    repeat (first | ((first | (with_reducible (first | refine Qs fun K E hK hE => ?_ | refine FunW.pan (FunW.call (cn 16 _)) ?_))); simp -implicitDefEqProofs only [Qb, Qg, OpW, QO, aop, AS.ev, Qc, Qn, QG, Qi, QU, ↓reduceIte, Nat.reduceLT, Nat.reduceEqDiff, QnK, Qp, QK, QL, aBin, Qnl, Qnn, QnA, QnE, QY, ti9, XS, QX, hget, hz]) | (with_reducible refine hE _ _ ?_))
    simp only [AExit.Qnf, Qf2]
    refine panQ rfl hEr ?_
    rw [hset]
    simp -implicitDefEqProofs only [Qi, QU, ↓reduceIte, Nat.reduceEqDiff, QK, QL, Qnl, Qnr, ti38, QK, QL, f4, QI, Qm, Qu, Qnv]
    refine Xc hy (.keep (.v _)) ⟨?_, rfl⟩
    rw [QbC, if_pos hsk]
theorem Qim (e : Int) (hx : x.Below h.length)
    (H : FunW Tryz.prog fv [.ptr (h.length + 1) 0 0] (hs h k x ++ [eE 0, rd l]) fun o h' => o = .panic (Err e) ∧ ∃ r, h' = hs h k x ++ [eE 0, rd r]) :
    Xd Tryz.prog 47 [.v (.string (mkB l)), fv] (hs h k x) fun o h' => o = .ret (.i e) ∧ h' = hs h k x := by
  have _u := hk
  have _w := hy
  have f1 := fun x => X3 h k x
  have f4 := fun x L => ZN (h := h) (i := k) x L
  have f5 := fun x L j => Qge (h := h) (i := k) x L j
  have f6 := fun x y L => ZA (h := h) (i := k) x y L
  have f7 := fun x y L j => Z9 (h := h) (i := k) x y L j
  have hsl := fun b => YB Tryz.prog 9 3 (by kernel_rfl) b
  have z1 : ¬ ((l.length : Nat) : Int) > 16384 := by omega
  have e3 : AB.cells 100 1 [.v (.string (mkB l))] = rd l := rfl
  refine Zj Tryz.func47 rfl Tryz.call47 Tryz.ntmps47 (congrArg Array.toList Tryz.results47) (by simp) ?_
  refine X0 (XI ?_)
  repeat (first | (((with_reducible refine Qs fun K E hK hE => ?_)); simp -implicitDefEqProofs only [Qd, Qb, Qg, OpW, aop, Qc, AV.QmP, QU, QnF, QnG, Qv, QnH, ↓reduceIte, Qny, Qnz, Nat.reduceLT, Qnx, zi38, f1]) | ((with_reducible refine hK _ ?_); clear hK))
  show DefW _ _ _ _ _ _
  refine X0 (XI ?_)
  repeat (first | (((with_reducible refine Qa fun K E hK hE => ?_)); simp -implicitDefEqProofs only [Qd, Qb, Qg, OpW, aop, undef, AS.ev, Qc, Qn, Qi, Qw, Qns, ↓reduceIte, Nat.reduceLT, Nat.reduceEqDiff, aBin, aLen, Qnn, Xg, goInt, QnS, hsl, Xr, z1]) | (with_reducible refine QA ?_) | ((with_reducible refine hK _ ?_); clear hK) | (refine Qk rfl ?_; simp only [↓reduceIte, Qnp]))
  show DefW _ _ _ _ _ _
  refine X0 (QbQ 1 rfl rfl rfl ?_)
  simp -implicitDefEqProofs only [Qd, Qb, Qg, OpW, aop, undef, AS.ev, Qc, QV, Qi, ↓reduceIte, Nat.reduceAdd, Nat.reduceLT, Nat.reduceEqDiff, QnU, QnA, QnE, QnO, Qnw, QnD, Qnu, QnC]
  refine ⟨_, _, _, rfl, ?_⟩
  show DefW _ _ _ _ _ _
  refine X0 (XI ?_)
  repeat (first | (((with_reducible refine Qs fun K E hK hE => ?_)); simp -implicitDefEqProofs only [Qd, Qb, Qg, OpW, aop, undef, AS.ev, Qc, Qi, Qw, Qns, AV.QmP, QB, QU, QJ, QnF, QnG, Qt, QnH, ↓reduceIte, Qny, Qnz, Nat.reduceLT, Nat.reduceLeDiff, Nat.reduceEqDiff, Qnx, QnT, X4, Yj, hlen, happ, Qnl, Qnn, QnA, QnE, QnN, QnM, QnO, QnD, Qnu, QnC, QmB, QmD, f1]) | ((with_reducible refine hK _ ?_); clear hK))
  show DefW _ _ _ _ _ _
  refine X0 (XI ?_)
  refine QbL (h.length + 1) 100 1 [.agg [.v (.string (mkB l))]] [.v (.string (mkB l))] (by simp only [f5]; rfl) (by intro x hx; simp at hx; subst hx; rfl) (.cons (.refl _) .nil) ?_
  simp only [f7, QnQ, QnP, e3]
  repeat (first | ((first | (with_reducible (first | refine Qs fun K E hK hE => ?_ | refine FunW.panE H fun r => ?_))); simp -implicitDefEqProofs only [Qb, Qg, OpW, QO, aop, undef, AS.ev, Qc, Qi, Qw, Qns, QnL, ↓reduceIte, Nat.reduceLT, Nat.reduceEqDiff, QnA, QnE]) | (with_reducible refine hE _ _ ?_))
  simp only [AExit.Qnf, Qf2]
  refine panQ rfl (by rw [f4]; rfl) ?_
  rw [f6]
  simp -implicitDefEqProofs only [Qi, QU, ↓reduceIte, Nat.reduceEqDiff, QK, QL, Qnl, QnP, Qnr, ti38, QK, QL, f4, QI, Qm, Qu, Qnv]
  exact Xc hx (.keep (.v _)) ⟨rfl, rfl⟩
end
end Go.Proofs.YtehjodmnajgdgaaGreatDoor.Ab
set_option maxRecDepth 4000
namespace Go.Proofs.YtehjodmnajgdgaaGreatDoor.Ab
open Go.Proofs
def EP {α : Type} (x : Res α) : Prop := ∀ e, x = .err e → 0 < e
theorem Zz {α : Type} {e : Int} (h : 0 < e) : EP (.err e : Res α) := fun e' h' => by cases h'; exact h
theorem Qel {α : Type} (a : α) (r : List UInt8) : EP (.ok a r) := fun e' h' => by cases h'
theorem Qiz {α : Type} {x : Res α} {e : Int} (H : EP x) (h : x = .err e) : EP (.err e : Res α) := fun e' h' => H e' (h.trans h')
theorem QiI {α β : Type} {e : Int} (H : EP (.err e : Res α)) : EP (.err e : Res β) := fun e' h' => by cases h'; exact H _ rfl
theorem QlO (s : Bool) (sign : Int) (l : List UInt8) : EP (pInt s sign l) := by
  cases l with
  | nil => exact Zz (by decide)
  | cons c r =>
    rw [pInt]
    split
    · split
      · exact Zz (by decide)
      · exact Qel _ _
    · split
      · exact Qel _ _
      · exact Zz (by decide)
theorem QkK {ex : List UInt8 → Res T} (H : ∀ l, EP (ex l)) : ∀ (m : Nat) (ls : List T) (r : List UInt8), EP (Zc ex m ls r)
  | 0, _, _ => Zz (by decide)
  | m + 1, ls, r => by
    rw [Zc]
    cases skipSp r with
    | nil => exact Zz (by decide)
    | cons c r2 =>
      simp only
      split
      · cases h : ex r2 with
        | ok t r3 => exact QkK H m _ _
        | err e => exact QiI (Qiz (H r2) h)
      · split
        · exact Qel _ _
        · exact Zz (by decide)
theorem Ql6 {ex : List UInt8 → Res T} (H : ∀ l, EP (ex l)) (r : List UInt8) : EP (Zr ex r) := by
  rw [Zr]
  cases skipSp r with
  | nil => exact Qel _ _
  | cons c r2 =>
    simp only
    split
    · cases h : ex r2 with
      | ok t r3 => exact QkK H _ _ _
      | err e => exact QiI (Qiz (H r2) h)
    · exact Qel _ _
theorem Qkb {ex : List UInt8 → Res T} (H : ∀ l, EP (ex l)) (r : List UInt8) : EP (ZV ex r) := by
  rw [ZV]
  split
  · split
    · exact Qel _ _
    · exact Zz (by decide)
  · split
    · cases h : Zr ex (r.dropWhile isW) with
      | ok t r3 => exact Qel _ _
      | err e => exact QiI (Qiz (Ql6 H _) h)
    · exact Zz (by decide)
theorem Qmk {s : Bool} {ex : List UInt8 → Res T} (H : ∀ l, EP (ex l)) (r : List UInt8) : EP (Yz s ex r) := by
  rw [Yz]
  cases skipSp r with
  | nil => exact Zz (by decide)
  | cons c r2 =>
    simp only
    split
    · exact QlO _ _ _
    · split
      · split
        · exact QlO _ _ _
        · exact Zz (by decide)
      · split
        · exact Qkb H _
        · split
          · cases h : ex r2 with
            | ok t r3 =>
              simp only
              split
              · split
                · exact Qel _ _
                · exact Zz (by decide)
              · exact Zz (by decide)
            | err e => exact QiI (Qiz (H r2) h)
          · exact Zz (by decide)
theorem Qgs {op : List UInt8 → Res T} (H : ∀ l, EP (op l)) (st : Int) : ∀ (m : Nat) (t : T) (r : List UInt8), EP (X9 op st m t r)
  | 0, _, _ => Qel _ _
  | m + 1, t, r => by
    rw [X9]
    cases skipSp r with
    | nil => exact Qel _ _
    | cons c r2 =>
      simp only
      split
      · cases h : op r2 with
        | ok t r3 => exact Qgs H st m _ _
        | err e => exact QiI (Qiz (H r2) h)
      · exact Qel _ _
theorem Qil {op : List UInt8 → Res T} (H : ∀ l, EP (op l)) (st : Int) (r : List UInt8) : EP (chain op st r) := by
  rw [chain]
  cases h : op r with
  | ok t r2 => exact Qgs H st _ _ _
  | err e => exact QiI (Qiz (H r) h)
theorem QhP (s : Bool) : ∀ n l, EP (YA s n l)
  | 0, l => Zz (by decide)
  | n + 1, l => Qil (Qil (Qmk (QhP s n)) 2) 1 l
abbrev z4 : AV := .agg [.i 0, .i 0, .v (.string { data := #[] }), .v (.slice none 0 0)]
abbrev cT (x : AV) : AB := .cells 24 4 [x]
abbrev cA (x : AV) : AB := .cells 34 2 [x]
theorem Qk2 (n : Nat) (t : T) : (cT t.av).Below n := by
  intro a ha
  exact Qbp n [t] a ha
section
variable {h : AH} {k : Nat} (hk : k < h.length) (x : AB) (l : List UInt8) (n : Nat) (hn : n ≤ 900000) (hln : l.length < n) (hT : Tabs (hs h k (cT z4) ++ [eE 0, rd l]))
include hk hn hln hT
theorem Qjz {t : T} {r : List UInt8} (hp : YA false n l = .ok t r) :
    Xd Tryz.prog 48 [.ptr (h.length + 1) 0 0, .ptr k 0 0] (hs h k (cT z4) ++ [eE 0, rd l]) fun o h' => o = .ret (.b t.QmV) ∧ h' = hs h k (cT t.av) ++ [eE 0, rd r] := by
  have f1 := fun x => X3 h k x
  have f2 := fun x L => Qei (h := h) hk x L
  have f3 := fun x y L => QeD (h := h) hk x y L
  have h1 : h.length + 1 < (hs h k (cT z4) ++ [eE 0, rd l]).length := by rw [List.length_append, X3]; show h.length + 1 < h.length + 2; omega
  have e1 : ∀ z w : AB, hs (hs h k (cT z4) ++ [eE 0, z]) (h.length + 1) w = hs h k (cT z4) ++ [eE 0, w] := fun z w => by
    show List.set _ _ _ = _
    rw [Z9]; rfl
  have cE := ZI n hn l hln (hs h k (cT z4) ++ [eE 0, rd l]) (h.length + 1) h1 (by rw [e1]; exact hT)
  rw [hp, e1] at cE
  have cE' := cE.mono (fun o h' q => by simpa only [RQ, e1] using q : ∀ o h', _ → (o = .ret t.av ∧ h' = hs h k (cT z4) ++ [eE 0, rd r]))
  have cR := Qev t
  refine Qe Tryz.func48 rfl Tryz.call48 Tryz.ntmps48 (congrArg Array.toList Tryz.results48) (by simp) ?_
  repeat (first | ((first | (with_reducible (first | refine Qa fun K E hK hE => ?_ | refine Qo cR ?_ | refine FunW.ret (FunW.call cE') ?_))); simp -implicitDefEqProofs only [Qd, Qb, Qg, OpW, QO, aop, undef, AS.ev, Qc, QV, Qr, Qi, Qw, Qns, QnL, AV.QmP, QB, QJ, QnF, QnG, Qv, Qt, QC, QnH, ↓reduceIte, Qny, Qnz, Nat.reduceAdd, Nat.reduceLT, Nat.reduceEqDiff, Qnx, QnT, QK, QL, Q5, QW, Qnl, QnP, Qnn, QnA, QnE, T.QmN, T.QmO, ti24, f2, f3, T.QmN, T.QmO]) | (with_reducible refine Ql ?_) | ((with_reducible refine hK _ ?_); clear hK))
  simp -implicitDefEqProofs only [Qi, ↓reduceIte, Qnr, QI, Qm, Qu, Qnv]
  exact .inr ⟨rfl, rfl⟩
theorem Qiy {e : Int} (hp : YA false n l = .err e) :
    Xd Tryz.prog 48 [.ptr (h.length + 1) 0 0, .ptr k 0 0] (hs h k (cT z4) ++ [eE 0, rd l]) fun o h' => o = .panic (Err e) ∧ ∃ r, h' = hs h k (cT z4) ++ [eE 0, rd r] := by
  have _u := hk
  have f1 := fun x => X3 h k x
  have h1 : h.length + 1 < (hs h k (cT z4) ++ [eE 0, rd l]).length := by rw [List.length_append, X3]; show h.length + 1 < h.length + 2; omega
  have e1 : ∀ z w : AB, hs (hs h k (cT z4) ++ [eE 0, z]) (h.length + 1) w = hs h k (cT z4) ++ [eE 0, w] := fun z w => by
    show List.set _ _ _ = _
    rw [Z9]; rfl
  have cE := ZI n hn l hln (hs h k (cT z4) ++ [eE 0, rd l]) (h.length + 1) h1 (by rw [e1]; exact hT)
  rw [hp, e1] at cE
  have cE' := cE.mono (fun o h' q => by simpa only [RQ, e1] using q : ∀ o h', _ → (o = .panic (Err e) ∧ ∃ r, h' = hs h k (cT z4) ++ [eE 0, rd r]))
  refine Qe Tryz.func48 rfl Tryz.call48 Tryz.ntmps48 (congrArg Array.toList Tryz.results48) (by simp) ?_
  repeat (first | ((first | (with_reducible (first | refine Qa fun K E hK hE => ?_ | refine FunW.panE (FunW.call cE') fun r => ?_))); simp -implicitDefEqProofs only [Qd, Qb, Qg, OpW, QO, aop, undef, AS.ev, Qc, Qr, Qi, Qw, Qns, ↓reduceIte, Nat.reduceLT, Nat.reduceEqDiff, QnA, QnE]) | ((with_reducible refine hK _ ?_); clear hK) | (with_reducible refine hE _ _ ?_))
  exact .inr ⟨rfl, _, rfl⟩
end
def tRes : Res T → AV
  | .ok t _ => .tup [t.av, .i 0]
  | .err e => .tup [(T.mk 0 0 eB []).av, .i e]
theorem cT_z (n : Nat) : (cT z4).Below n := by
  intro a ha
  simp only [flat, List.flatMap_cons, List.flatMap_nil, QnO, AV.cells, List.mem_cons, List.not_mem_nil, or_false] at ha
  rcases ha with rfl | rfl | rfl | rfl <;> exact .v _
theorem QjN (H : AH) (m : Nat) (e : Int) : Frz H m (.tup [z4, .i e]) (.tup [(T.mk 0 0 eB []).av, .i e]) :=
  .tup rfl (Xt (.agg rfl (Xt (.keep (.v _)) (Xt (.keep (.v _)) (Xt (.keep (.v _)) (Ys (.nil 4)))))) (Ys (.keep (.v _))))
theorem Qau (l : List UInt8) (hm : l.length ≤ 9223372036854775807) (h : AH) (hT : Tabs h) : Xd Tryz.prog 18 [.v (.string (mkB l))] h fun o h' => o = .ret (tRes (Zm false l)) ∧ h' = h := by
  by_cases hl : 16384 < l.length
  · have c1 := fun fv => QgL l fv hl hm
    have z1 : ((6 : Int) != 0) = true := by decide
    rw [Zm, if_pos hl]
    refine Qe Tryz.func18 rfl Tryz.call18 Tryz.ntmps18 (congrArg Array.toList Tryz.results18) (by simp) ?_
    repeat (first | ((first | (with_reducible (first | refine Qa fun K E hK hE => ?_ | refine Qo (c1 _) ?_))); simp -implicitDefEqProofs only [Qd, Qb, Qg, OpW, QO, aop, undef, AS.ev, Qc, QV, Qn, Qi, Qw, Qns, AV.QmP, QB, QJ, QnF, QnG, Qv, Qt, QM, QnH, ↓reduceIte, Qny, Qnz, Nat.reduceAdd, Nat.reduceLT, Nat.reduceEqDiff, Qnx, QnT, Q5, QW, aBin, X4, Yj, QT, YQ, hlen, happ, Qnl, QnP, Qnn, QnA, QnE, QnN, QnM, Xh, ti24, zi24, sp24, z1]) | (with_reducible (first | refine Qh fun K hK => ?_ | refine Ql ?_ | refine Qy ?_)) | ((with_reducible refine hK _ ?_); clear hK) | (refine Qk rfl ?_; simp only [↓reduceIte]))
    simp -implicitDefEqProofs only [Qi, QB, QJ, ↓reduceIte, Qny, Qnz, Nat.reduceAdd, Nat.reduceEqDiff, Qnx, QnT, QK, QL, QT, Qnl, Qnn, Qnq, Qnr, ti24, List.mapM_cons, List.mapM_nil, Option.pure_def, Option.bind_eq_bind, QK, QL, QT, QI, Qm, Qu, Qnv]
    exact Qf (htake _ _) (QjN _ _ _) ⟨rfl, rfl⟩
  · have hk : h.length + 1 < (h ++ [cT z4, cT z4]).length := by rw [List.length_append]; show h.length + 1 < h.length + 2; omega
    have e0 : hs (h ++ [cT z4, cT z4]) (h.length + 1) (cT z4) = h ++ [cT z4, cT z4] := QhS (by rw [hget]; rfl)
    have e2 : ∀ x, hs (h ++ [cT z4, cT z4]) (h.length + 1) (cT x) = h ++ [cT z4, cT x] := fun x => by
      show List.set _ _ _ = _
      rw [hset]; rfl
    have hT2 : Tabs (hs (h ++ [cT z4, cT z4]) (h.length + 1) (cT z4) ++ [eE 0, rd l]) := by rw [e0]; exact (hT.app _).app _
    rw [Zm, if_neg hl]
    cases hp : YA false (l.length + 1) l with
    | err e =>
      have he : 0 < e := QhP false _ _ e hp
      have z1 : (e != 0) = true := by simp; omega
      have c1 := Qiy hk l (l.length + 1) (by omega) (by omega) hT2 hp
      have c2 := Qim hk (cT z4) (cT z4) (cT_z _) l (.fn (.func 48) [] [.ptr (h.length + 1) 0 0]) (by omega) e (cT_z _) (FunW.fn (show Xd _ _ ([] ++ [_] ++ [_]) _ _ from c1))
      rw [e0] at c2
      refine Qe Tryz.func18 rfl Tryz.call18 Tryz.ntmps18 (congrArg Array.toList Tryz.results18) (by simp) ?_
      repeat (first | ((first | (with_reducible (first | refine Qa fun K E hK hE => ?_ | refine FunW.ret (FunW.call c2) ?_))); simp -implicitDefEqProofs only [Qd, Qb, Qg, OpW, QO, aop, undef, AS.ev, Qc, QV, Qn, Qi, Qw, Qns, AV.QmP, QB, QJ, QnF, QnG, Qv, Qt, QM, QnH, ↓reduceIte, Qny, Qnz, Nat.reduceAdd, Nat.reduceLT, Nat.reduceEqDiff, Qnx, QnT, Q5, QW, aBin, X4, Yj, QT, YQ, hlen, happ, Qnl, QnP, Qnn, QnA, QnE, QnN, QnM, Xh, ti24, zi24, sp24, z1]) | (with_reducible (first | refine Qh fun K hK => ?_ | refine Ql ?_ | refine Qy ?_)) | ((with_reducible refine hK _ ?_); clear hK) | (refine Qk rfl ?_; simp only [↓reduceIte]))
      simp -implicitDefEqProofs only [Qi, QB, QJ, ↓reduceIte, Qny, Qnz, Nat.reduceAdd, Nat.reduceEqDiff, Qnx, QnT, QK, QL, QT, Qnl, Qnn, Qnq, Qnr, ti24, List.mapM_cons, List.mapM_nil, Option.pure_def, Option.bind_eq_bind, QK, QL, QT, QI, Qm, Qu, Qnv]
      exact Qf (htake _ _) (QjN _ _ _) ⟨rfl, rfl⟩
    | ok t r =>
      have c1 := Qjz hk l (l.length + 1) (by omega) (by omega) hT2 hp
      have c2 := QkM hk (cT z4) (cT t.av) (Qk2 _ t) l (.fn (.func 48) [] [.ptr (h.length + 1) 0 0]) (by omega) t.QmV r (FunW.fn (show Xd _ _ ([] ++ [_] ++ [_]) _ _ from c1))
      rw [e0, e2] at c2
      simp only
      have hR : tRes (if skipSp r ≠ [] then Res.err 16 else if (t.run 200 20).1 = true then .ok t [] else .err 6) = if QbC t.QmV r ≠ 0 then .tup [(T.mk 0 0 eB []).av, .i (QbC t.QmV r)] else .tup [t.av, .i 0] := by
        rw [QbC, T.QmV]
        by_cases h1 : skipSp r ≠ []
        · rw [if_pos h1, if_pos h1]; rfl
        · rw [if_neg h1, if_neg h1]
          cases (t.run 200 20).1 <;> rfl
      rw [hR]
      by_cases h0 : QbC t.QmV r ≠ 0
      · have z1 : (QbC t.QmV r != 0) = true := by simpa using h0
        rw [if_pos h0]
        refine Qe Tryz.func18 rfl Tryz.call18 Tryz.ntmps18 (congrArg Array.toList Tryz.results18) (by simp) ?_
        repeat (first | ((first | (with_reducible (first | refine Qa fun K E hK hE => ?_ | refine FunW.ret (FunW.call c2) ?_))); simp -implicitDefEqProofs only [Qd, Qb, Qg, OpW, QO, aop, undef, AS.ev, Qc, QV, Qn, Qi, Qw, Qns, AV.QmP, QB, QJ, QnF, QnG, Qv, Qt, QM, QnH, ↓reduceIte, Qny, Qnz, Nat.reduceAdd, Nat.reduceLT, Nat.reduceEqDiff, Qnx, QnT, Q5, QW, aBin, X4, Yj, QT, YQ, hlen, happ, Qnl, QnP, Qnn, QnA, QnE, QnN, QnM, Xh, ti24, zi24, sp24, z1]) | (with_reducible (first | refine Qh fun K hK => ?_ | refine Ql ?_ | refine Qy ?_)) | ((with_reducible refine hK _ ?_); clear hK) | (refine Qk rfl ?_; simp only [↓reduceIte]))
        simp -implicitDefEqProofs only [Qi, QB, QJ, ↓reduceIte, Qny, Qnz, Nat.reduceAdd, Nat.reduceEqDiff, Qnx, QnT, QK, QL, QT, Qnl, Qnn, Qnq, Qnr, ti24, List.mapM_cons, List.mapM_nil, Option.pure_def, Option.bind_eq_bind, QK, QL, QT, QI, Qm, Qu, Qnv]
        exact Qf (htake _ _) (QjN _ _ _) ⟨rfl, rfl⟩
      · have z1 : (QbC t.QmV r != 0) = false := by simpa using h0
        rw [if_neg h0]
        refine Qe Tryz.func18 rfl Tryz.call18 Tryz.ntmps18 (congrArg Array.toList Tryz.results18) (by simp) ?_
        repeat (first | ((first | (with_reducible (first | refine Qa fun K E hK hE => ?_ | refine FunW.ret (FunW.call c2) ?_))); simp -implicitDefEqProofs only [Qd, Qb, Qg, OpW, QO, aop, undef, AS.ev, Qc, QV, Qn, Qi, Qw, Qns, AV.QmP, QB, QJ, QnF, QnG, Qv, Qt, QM, QC, QnH, ↓reduceIte, Qny, Qnz, Nat.reduceAdd, Nat.reduceLT, Nat.reduceEqDiff, Qnx, QnT, QK, QL, Q5, QW, aBin, QT, hget, YQ, hlen, happ, Qnl, Qnm, QnP, Qnn, QnA, QnE, QnN, QnM, Xh, T.QmN, T.QmO, ti24, zi24, z1, T.QmN, T.QmO]) | (with_reducible (first | refine Qh fun K hK => ?_ | refine Ql ?_ | refine QA ?_ | refine Qj ?_)) | ((with_reducible refine hK _ ?_); clear hK) | (refine Qk rfl ?_; simp only [↓reduceIte, Qnp]))
        simp -implicitDefEqProofs only [Qi, ↓reduceIte, Qny, Qnz, Nat.reduceAdd, Nat.reduceEqDiff, Qnx, QnT, QK, QL, QT, Qnl, Qnn, Qnq, Qnr, T.QmN, T.QmO, ti24, List.mapM_cons, List.mapM_nil, Option.pure_def, Option.bind_eq_bind, QK, QL, QT, T.QmN, T.QmO, QI, Qm, Qu, Qnv]
        exact Qf (htake _ _) (.tup rfl (Xt (.keep (T.Qm0 _ t)) (Ys (.keep (.v _))))) ⟨rfl, rfl⟩
end Go.Proofs.YtehjodmnajgdgaaGreatDoor.Ab
set_option maxRecDepth 4000
namespace Go.Proofs.YtehjodmnajgdgaaGreatDoor.Ab
open Go.Proofs
abbrev z2 : AV := .agg [.v (.string { data := #[] }), .v (.slice none 0 0)]
theorem Qiq (n : Nat) (g : G) : (cA g.atom).Below n := by
  intro a ha
  exact QdC n g a (by simpa [flat] using ha)
theorem cA_z (n : Nat) : (cA z2).Below n := by
  intro a ha
  simp only [flat, List.flatMap_cons, List.flatMap_nil, QnO, AV.cells, List.mem_cons, List.not_mem_nil, or_false] at ha
  rcases ha with rfl | rfl <;> exact .v _
def QfL (n : Nat) (l : List UInt8) : Res T := match skipSp l with
  | [] => .err 16
  | c :: r => if 97 ≤ c.toNat ∧ c.toNat ≤ 122 then ZV (YA false n) (c :: r) else .err 16
def T.g (t : T) : G := ⟨0, t.name, t.args⟩
theorem QkY (n : Nat) (l : List UInt8) : EP (QfL n l) := by
  rw [QfL]
  cases skipSp l with
  | nil => exact Zz (by decide)
  | cons c r =>
    simp only
    split
    · exact Qkb (QhP false n) _
    · exact Zz (by decide)
theorem QkJ {c : UInt8} (h : 97 ≤ c.toNat ∧ c.toNat ≤ 122) : isL c = true := by
  rw [isL, decide_eq_true (.inl h)]
theorem QmA {h : AH} {k : Nat} (hk : k < h.length) (l : List UInt8) (x : AB) (r : List UInt8) : hs h k x ++ [eE 0, rd r] = hs2 (h ++ [eE 0, rd l]) k x (h.length + 1) (rd r) := by
  simp only [hs2, List.set_append_left _ _ hk]
  show _ = (hs h k x ++ [eE 0, rd l]).set (h.length + 1) (rd r)
  rw [Z9]; rfl
section
variable {h : AH} {k : Nat} (hk : k < h.length) (l : List UInt8) (n : Nat) (hn : n ≤ 900000) (hln : l.length < n) (hT : Tabs (hs h k (cA z2) ++ [eE 0, rd l]))
include hk hn hln hT
theorem Qjc {t : T} {r : List UInt8} (hp : QfL n l = .ok t r) :
    Xd Tryz.prog 52 [.ptr (h.length + 1) 0 0, .ptr k 0 0] (hs h k (cA z2) ++ [eE 0, rd l]) fun o h' => o = .ret (.b (Q3 t.g)) ∧ h' = hs h k (cA t.g.atom) ++ [eE 0, rd r] := by
  have f1 := fun x => X3 h k x
  have h1 : h.length + 1 < (hs h k (cA z2) ++ [eE 0, rd l]).length := by rw [List.length_append, X3]; show h.length + 1 < h.length + 2; omega
  have e1 : ∀ z w : AB, hs (hs h k (cA z2) ++ [eE 0, z]) (h.length + 1) w = hs h k (cA z2) ++ [eE 0, w] := fun z w => by
    show List.set _ _ _ = _
    rw [Z9]; rfl
  have cn := Qcw h1 l []
  simp only [QnO, e1] at cn
  rw [QfL] at hp
  cases hsk : skipSp l with
  | nil => rw [hsk] at hp; cases hp
  | cons c q =>
    rw [hsk] at hp cn
    simp only at hp
    have hlt := Xl hsk
    split at hp
    case isFalse => cases hp
    rename_i hc
    have e2 : nx l = c.toNat := by rw [nx, hsk]
    rw [e2] at cn
    have z1 : (97 : Int) ≤ (c.toNat : Nat) := by omega
    have z3 : ((c.toNat : Nat) : Int) ≤ 122 := by omega
    have cy := ZW 16
    have hTq : Tabs (hs h k (cA z2) ++ [eE 0, rd (c :: q)]) := by
      have := Tabs.rds (h := hs h k (cA z2) ++ [eE 0, rd l]) (i := h.length + 1) h1 (l := l) (by rw [e1]; exact hT) (c :: q)
      rwa [e1] at this
    have h2 : h.length + 1 < (hs h k (cA z2) ++ [eE 0, rd (c :: q)]).length := by rw [List.length_append, X3]; show h.length + 1 < h.length + 2; omega
    have cW := Qd3 (ZI n hn) (Yg false n) (by omega) c q (QkJ hc) (by simp only [Qny]; omega) (hs h k (cA z2) ++ [eE 0, rd (c :: q)]) (h.length + 1) h2 (by rw [e1]; exact hTq)
    rw [hp, e1] at cW
    have cW' := cW.mono (fun o h' q => by simpa only [RQ, e1] using q : ∀ o h', _ → (o = .ret t.av ∧ h' = hs h k (cA z2) ++ [eE 0, rd r]))
    have cR := Qab t.g
    have f2 := fun x L => Qei (h := h) hk x L
    have f3 := fun x y L => QeD (h := h) hk x y L
    have f7 := fun x y L j => Z9 (h := h) (i := k) x y L j
    have f5 := fun x L j => Qge (h := h) (i := k) x L j
    have ga : (AV.agg [.v (.string t.name), .sl 4 (avs t.args) none]) = t.g.atom := rfl
    refine Qe Tryz.func52 rfl Tryz.call52 Tryz.ntmps52 (congrArg Array.toList Tryz.results52) (by simp) ?_
    repeat (first | ((first | (with_reducible (first | refine Qa fun K E hK hE => ?_ | refine Qo cy ?_ | refine Qo cR ?_ | refine FunW.ret (FunW.call cn) ?_ | refine FunW.ret (FunW.call cW') ?_))); simp -implicitDefEqProofs only [Qd, Qb, Qg, OpW, QO, aop, undef, AS.ev, Qc, QV, Qn, Qr, Qi, Qw, Qns, QnL, AV.QmP, QB, QU, Yf, QJ, QnF, QnG, Qv, Qt, QM, QC, QnH, ↓reduceIte, Qny, Qnz, Nat.reduceAdd, Nat.reduceLT, Nat.reduceLeDiff, Nat.reduceEqDiff, Qnx, QnT, Qp, QK, QL, Q5, QW, aBin, X4, Yj, hlen, happ, Qnl, Qnm, QnP, QnQ, Qnn, Qnq, Qno, QnA, QnE, QnN, QnM, QnO, Qnw, QnD, Qnu, QnC, Xe, QnR, Qnt, T.QmN, T.QmO, ti9, ti22, ti24, Xx, Xy, zi24, ti34, zi34, sp34, f1, f2, f3, f5, f7, z1, z3, T.QmN, T.QmO, ga, Xm, XP]) | (with_reducible refine Ql ?_) | ((with_reducible refine hK _ ?_); clear hK))
    simp -implicitDefEqProofs only [Qi, ↓reduceIte, Qnr, QI, Qm, Qu, Qnv]
    have e9 : ∀ (x : AB) (r : List UInt8) (X : AB), hs h k x ++ [eE 0, rd r, X] = (hs h k x ++ [eE 0, rd r]) ++ [X] := fun x r X => (List.append_assoc _ [eE 0, rd r] [X]).symm
    simp only [e9, QmA hk l]
    refine Qfe (by omega) (Qiq _ t.g) (Y5 _ _) (.keep (.v _)) ⟨rfl, rfl⟩
theorem QhB {e : Int} (hp : QfL n l = .err e) :
    Xd Tryz.prog 52 [.ptr (h.length + 1) 0 0, .ptr k 0 0] (hs h k (cA z2) ++ [eE 0, rd l]) fun o h' => o = .panic (Err e) ∧ ∃ r, h' = hs h k (cA z2) ++ [eE 0, rd r] := by
  have _u := hk
  have f1 := fun x => X3 h k x
  have h1 : h.length + 1 < (hs h k (cA z2) ++ [eE 0, rd l]).length := by rw [List.length_append, X3]; show h.length + 1 < h.length + 2; omega
  have e1 : ∀ z w : AB, hs (hs h k (cA z2) ++ [eE 0, z]) (h.length + 1) w = hs h k (cA z2) ++ [eE 0, w] := fun z w => by
    show List.set _ _ _ = _
    rw [Z9]; rfl
  have cn := Qcw h1 l []
  simp only [QnO, e1] at cn
  have cm := fun H => QbO 16 H
  rw [QfL] at hp
  cases hsk : skipSp l with
  | nil =>
    rw [hsk] at hp cn
    cases hp
    have e2 : nx l = 0 := by rw [nx, hsk]
    rw [e2] at cn
    have z1 : ¬ (97 : Int) ≤ ((0 : Nat) : Int) := by decide
    have z2 : ¬ (97 : Int) ≤ 0 := by decide
    refine Qe Tryz.func52 rfl Tryz.call52 Tryz.ntmps52 (congrArg Array.toList Tryz.results52) (by simp) ?_
    repeat (first | ((first | (with_reducible (first | refine Qa fun K E hK hE => ?_ | refine FunW.ret (FunW.call cn) ?_ | refine FunW.pan (FunW.call (cm _)) ?_))); simp -implicitDefEqProofs only [Qd, Qb, Qg, OpW, QO, aop, undef, AS.ev, Qc, Qn, Qr, Qi, Qw, Qns, ↓reduceIte, Nat.reduceLT, Nat.reduceEqDiff, aBin, Qnl, Qnm, Qnn, Qnq, Qno, QnA, QnE, Xe, QnS, Qn7, Qnp, beq_true, z2]) | ((with_reducible refine hK _ ?_); clear hK) | (with_reducible refine hE _ _ ?_))
    exact .inr ⟨rfl, _, rfl⟩
  | cons c q =>
    rw [hsk] at hp cn
    simp only at hp
    have hlt := Xl hsk
    have e2 : nx l = c.toNat := by rw [nx, hsk]
    rw [e2] at cn
    have cy := ZW 16
    split at hp
    · rename_i hc
      have z1 : (97 : Int) ≤ (c.toNat : Nat) := by omega
      have z3 : ((c.toNat : Nat) : Int) ≤ 122 := by omega
      have hTq : Tabs (hs h k (cA z2) ++ [eE 0, rd (c :: q)]) := by
        have := Tabs.rds (h := hs h k (cA z2) ++ [eE 0, rd l]) (i := h.length + 1) h1 (l := l) (by rw [e1]; exact hT) (c :: q)
        rwa [e1] at this
      have h2 : h.length + 1 < (hs h k (cA z2) ++ [eE 0, rd (c :: q)]).length := by rw [List.length_append, X3]; show h.length + 1 < h.length + 2; omega
      have cW := Qd3 (ZI n hn) (Yg false n) (by omega) c q (QkJ hc) (by simp only [Qny]; omega) (hs h k (cA z2) ++ [eE 0, rd (c :: q)]) (h.length + 1) h2 (by rw [e1]; exact hTq)
      rw [hp, e1] at cW
      have cW' := cW.mono (fun o h' q => by simpa only [RQ, e1] using q : ∀ o h', _ → (o = .panic (Err e) ∧ ∃ r, h' = hs h k (cA z2) ++ [eE 0, rd r]))
      refine Qe Tryz.func52 rfl Tryz.call52 Tryz.ntmps52 (congrArg Array.toList Tryz.results52) (by simp) ?_
      repeat (first | ((first | (with_reducible (first | refine Qa fun K E hK hE => ?_ | refine Qo cy ?_ | refine FunW.ret (FunW.call cn) ?_ | refine FunW.panE (FunW.call cW') fun r => ?_))); simp -implicitDefEqProofs only [Qd, Qb, Qg, OpW, QO, aop, undef, AS.ev, Qc, Qn, Qr, Qi, Qw, Qns, ↓reduceIte, Nat.reduceLT, Nat.reduceEqDiff, aBin, Qnl, Qnm, Qnn, Qnq, Qno, QnA, QnE, Xe, QnR, Qnt, z1, z3]) | ((with_reducible refine hK _ ?_); clear hK) | (with_reducible refine hE _ _ ?_))
      exact .inr ⟨rfl, _, rfl⟩
    · rename_i hc
      cases hp
      by_cases h97 : (97 : Int) ≤ (c.toNat : Nat)
      · have z3 : ¬ ((c.toNat : Nat) : Int) ≤ 122 := by omega
        refine Qe Tryz.func52 rfl Tryz.call52 Tryz.ntmps52 (congrArg Array.toList Tryz.results52) (by simp) ?_
        repeat (first | ((first | (with_reducible (first | refine Qa fun K E hK hE => ?_ | refine FunW.ret (FunW.call cn) ?_ | refine FunW.pan (FunW.call (cm _)) ?_))); simp -implicitDefEqProofs only [Qd, Qb, Qg, OpW, QO, aop, undef, AS.ev, Qc, Qn, Qr, Qi, Qw, Qns, ↓reduceIte, Nat.reduceLT, Nat.reduceEqDiff, aBin, Qnl, Qnm, Qnn, Qnq, Qno, QnA, QnE, Xe, QnR, QnS, Qnt, h97, z3]) | ((with_reducible refine hK _ ?_); clear hK) | (with_reducible refine hE _ _ ?_))
        exact .inr ⟨rfl, _, rfl⟩
      · refine Qe Tryz.func52 rfl Tryz.call52 Tryz.ntmps52 (congrArg Array.toList Tryz.results52) (by simp) ?_
        repeat (first | ((first | (with_reducible (first | refine Qa fun K E hK hE => ?_ | refine FunW.ret (FunW.call cn) ?_ | refine FunW.pan (FunW.call (cm _)) ?_))); simp -implicitDefEqProofs only [Qd, Qb, Qg, OpW, QO, aop, undef, AS.ev, Qc, Qn, Qr, Qi, Qw, Qns, ↓reduceIte, Nat.reduceLT, Nat.reduceEqDiff, aBin, Qnl, Qnm, Qnn, Qnq, Qno, QnA, QnE, Xe, QnS, Qnp, beq_true, h97]) | ((with_reducible refine hK _ ?_); clear hK) | (with_reducible refine hE _ _ ?_))
        exact .inr ⟨rfl, _, rfl⟩
end
end Go.Proofs.YtehjodmnajgdgaaGreatDoor.Ab
set_option maxRecDepth 4000
namespace Go.Proofs.YtehjodmnajgdgaaGreatDoor.Ab
open Go.Proofs
def aRes : Res G → AV
  | .ok g _ => .tup [g.atom, .i 0]
  | .err e => .tup [(G.mk 0 eB []).atom, .i e]
theorem Qj5 (H : AH) (m : Nat) (e : Int) : Frz H m (.tup [z2, .i e]) (.tup [(G.mk 0 eB []).atom, .i e]) :=
  .tup rfl (Xt (.agg rfl (Xt (.keep (.v _)) (Ys (.nil 4)))) (Ys (.keep (.v _))))
theorem Qkc (l : List UInt8) (hl : ¬ 16384 < l.length) : QaQ false l = match QfL (l.length + 1) l with
  | .ok t r => if skipSp r ≠ [] then .err 16 else if Q3 t.g = true then .ok t.g [] else .err 6
  | .err e => .err e := by
  rw [QaQ, if_neg hl, QfL]
  cases skipSp l with
  | nil => rfl
  | cons c r =>
    simp only
    split
    · rfl
    · rfl
theorem QeP (l : List UInt8) (hm : l.length ≤ 9223372036854775807) (h : AH) (hT : Tabs h) : Xd Tryz.prog 20 [.v (.string (mkB l))] h fun o h' => o = .ret (aRes (QaQ false l)) ∧ h' = h := by
  by_cases hl : 16384 < l.length
  · have c1 := fun fv => QgL l fv hl hm
    have z1 : ((6 : Int) != 0) = true := by decide
    rw [QaQ, if_pos hl]
    refine Qe Tryz.func20 rfl Tryz.call20 Tryz.ntmps20 (congrArg Array.toList Tryz.results20) (by simp) ?_
    repeat (first | ((first | (with_reducible (first | refine Qa fun K E hK hE => ?_ | refine Qo (c1 _) ?_))); simp -implicitDefEqProofs only [Qd, Qb, Qg, OpW, QO, aop, undef, AS.ev, Qc, QV, Qn, Qi, Qw, Qns, AV.QmP, QB, QJ, QnF, QnG, Qt, QM, QnH, ↓reduceIte, Qny, Qnz, Nat.reduceAdd, Nat.reduceLT, Nat.reduceEqDiff, Qnx, QnT, Q5, QW, aBin, X4, Yj, QT, YQ, hlen, happ, Qnl, QnP, Qnn, QnA, QnE, QnN, QnM, Xh, ti34, zi34, sp34, z1]) | (with_reducible (first | refine Qh fun K hK => ?_ | refine Ql ?_ | refine Qy ?_)) | ((with_reducible refine hK _ ?_); clear hK) | (refine Qk rfl ?_; simp only [↓reduceIte]))
    simp -implicitDefEqProofs only [Qi, QB, QJ, ↓reduceIte, Qny, Qnz, Nat.reduceAdd, Nat.reduceEqDiff, Qnx, QnT, QK, QL, QT, Qnl, Qnn, Qnq, Qnr, ti34, List.mapM_cons, List.mapM_nil, Option.pure_def, Option.bind_eq_bind, QK, QL, QT, QI, Qm, Qu, Qnv]
    exact Qf (htake _ _) (Qj5 _ _ _) ⟨rfl, rfl⟩
  · have hk : h.length + 1 < (h ++ [cA z2, cA z2]).length := by rw [List.length_append]; show h.length + 1 < h.length + 2; omega
    have e0 : hs (h ++ [cA z2, cA z2]) (h.length + 1) (cA z2) = h ++ [cA z2, cA z2] := QhS (by rw [hget]; rfl)
    have e2 : ∀ x, hs (h ++ [cA z2, cA z2]) (h.length + 1) (cA x) = h ++ [cA z2, cA x] := fun x => by
      show List.set _ _ _ = _
      rw [hset]; rfl
    have hT2 : Tabs (hs (h ++ [cA z2, cA z2]) (h.length + 1) (cA z2) ++ [eE 0, rd l]) := by rw [e0]; exact (hT.app _).app _
    rw [Qkc l hl]
    cases hp : QfL (l.length + 1) l with
    | err e =>
      have he : 0 < e := QkY _ _ e hp
      have z1 : (e != 0) = true := by simp; omega
      have c1 := QhB hk l (l.length + 1) (by omega) (by omega) hT2 hp
      have c2 := Qim hk (cA z2) (cA z2) (cA_z _) l (.fn (.func 52) [] [.ptr (h.length + 1) 0 0]) (by omega) e (cA_z _) (FunW.fn (show Xd _ _ ([] ++ [_] ++ [_]) _ _ from c1))
      rw [e0] at c2
      refine Qe Tryz.func20 rfl Tryz.call20 Tryz.ntmps20 (congrArg Array.toList Tryz.results20) (by simp) ?_
      repeat (first | ((first | (with_reducible (first | refine Qa fun K E hK hE => ?_ | refine FunW.ret (FunW.call c2) ?_))); simp -implicitDefEqProofs only [Qd, Qb, Qg, OpW, QO, aop, undef, AS.ev, Qc, QV, Qn, Qi, Qw, Qns, AV.QmP, QB, QJ, QnF, QnG, Qt, QM, QnH, ↓reduceIte, Qny, Qnz, Nat.reduceAdd, Nat.reduceLT, Nat.reduceEqDiff, Qnx, QnT, Q5, QW, aBin, X4, Yj, QT, YQ, hlen, happ, Qnl, QnP, Qnn, QnA, QnE, QnN, QnM, Xh, ti34, zi34, sp34, z1]) | (with_reducible (first | refine Qh fun K hK => ?_ | refine Ql ?_ | refine Qy ?_)) | ((with_reducible refine hK _ ?_); clear hK) | (refine Qk rfl ?_; simp only [↓reduceIte]))
      simp -implicitDefEqProofs only [Qi, QB, QJ, ↓reduceIte, Qny, Qnz, Nat.reduceAdd, Nat.reduceEqDiff, Qnx, QnT, QK, QL, QT, Qnl, Qnn, Qnq, Qnr, ti34, List.mapM_cons, List.mapM_nil, Option.pure_def, Option.bind_eq_bind, QK, QL, QT, QI, Qm, Qu, Qnv]
      exact Qf (htake _ _) (Qj5 _ _ _) ⟨rfl, rfl⟩
    | ok t r =>
      have c1 := Qjc hk l (l.length + 1) (by omega) (by omega) hT2 hp
      have c2 := QkM hk (cA z2) (cA t.g.atom) (Qiq _ t.g) l (.fn (.func 52) [] [.ptr (h.length + 1) 0 0]) (by omega) (Q3 t.g) r (FunW.fn (show Xd _ _ ([] ++ [_] ++ [_]) _ _ from c1))
      rw [e0, e2] at c2
      simp only
      have hR : aRes (if skipSp r ≠ [] then Res.err 16 else if Q3 t.g = true then .ok t.g [] else .err 6) = if QbC (Q3 t.g) r ≠ 0 then .tup [(G.mk 0 eB []).atom, .i (QbC (Q3 t.g) r)] else .tup [t.g.atom, .i 0] := by
        rw [QbC]
        by_cases h1 : skipSp r ≠ []
        · rw [if_pos h1, if_pos h1]; rfl
        · rw [if_neg h1, if_neg h1]
          cases Q3 t.g <;> rfl
      rw [hR]
      by_cases h0 : QbC (Q3 t.g) r ≠ 0
      · have z1 : (QbC (Q3 t.g) r != 0) = true := by simpa using h0
        rw [if_pos h0]
        refine Qe Tryz.func20 rfl Tryz.call20 Tryz.ntmps20 (congrArg Array.toList Tryz.results20) (by simp) ?_
        repeat (first | ((first | (with_reducible (first | refine Qa fun K E hK hE => ?_ | refine FunW.ret (FunW.call c2) ?_))); simp -implicitDefEqProofs only [Qd, Qb, Qg, OpW, QO, aop, undef, AS.ev, Qc, QV, Qn, Qi, Qw, Qns, AV.QmP, QB, QJ, QnF, QnG, Qt, QM, QnH, ↓reduceIte, Qny, Qnz, Nat.reduceAdd, Nat.reduceLT, Nat.reduceEqDiff, Qnx, QnT, Q5, QW, aBin, X4, Yj, QT, YQ, hlen, happ, Qnl, QnP, Qnn, QnA, QnE, QnN, QnM, Xh, ti34, zi34, sp34, z1]) | (with_reducible (first | refine Qh fun K hK => ?_ | refine Ql ?_ | refine Qy ?_)) | ((with_reducible refine hK _ ?_); clear hK) | (refine Qk rfl ?_; simp only [↓reduceIte]))
        simp -implicitDefEqProofs only [Qi, QB, QJ, ↓reduceIte, Qny, Qnz, Nat.reduceAdd, Nat.reduceEqDiff, Qnx, QnT, QK, QL, QT, Qnl, Qnn, Qnq, Qnr, ti34, List.mapM_cons, List.mapM_nil, Option.pure_def, Option.bind_eq_bind, QK, QL, QT, QI, Qm, Qu, Qnv]
        exact Qf (htake _ _) (Qj5 _ _ _) ⟨rfl, rfl⟩
      · have z1 : (QbC (Q3 t.g) r != 0) = false := by simpa using h0
        rw [if_neg h0]
        refine Qe Tryz.func20 rfl Tryz.call20 Tryz.ntmps20 (congrArg Array.toList Tryz.results20) (by simp) ?_
        repeat (first | ((first | (with_reducible (first | refine Qa fun K E hK hE => ?_ | refine FunW.ret (FunW.call c2) ?_))); simp -implicitDefEqProofs only [Qd, Qb, Qg, OpW, QO, aop, undef, AS.ev, Qc, QV, Qn, Qi, Qw, Qns, AV.QmP, QB, QJ, QnF, QnG, Qt, QM, QC, QnH, ↓reduceIte, Qny, Qnz, Nat.reduceAdd, Nat.reduceLT, Nat.reduceEqDiff, Qnx, QnT, QK, QL, Q5, QW, aBin, QT, hget, YQ, hlen, happ, Qnl, Qnm, QnP, Qnn, QnA, QnE, QnN, QnM, Xh, ti34, zi34, z1, Xm, XP]) | (with_reducible (first | refine Qh fun K hK => ?_ | refine Ql ?_ | refine QA ?_ | refine Qj ?_)) | ((with_reducible refine hK _ ?_); clear hK) | (refine Qk rfl ?_; simp only [↓reduceIte, Qnp]))
        simp -implicitDefEqProofs only [Qi, ↓reduceIte, Qny, Qnz, Nat.reduceAdd, Nat.reduceEqDiff, Qnx, QnT, QK, QL, QT, Qnl, Qnn, Qnq, Qnr, ti34, List.mapM_cons, List.mapM_nil, Option.pure_def, Option.bind_eq_bind, QK, QL, QT, Xm, XP, QI, Qm, Qu, Qnv]
        exact Qf (htake _ _) (.tup rfl (Xt (.keep (.agg _ (QdC _ t.g))) (Ys (.keep (.v _))))) ⟨rfl, rfl⟩
end Go.Proofs.YtehjodmnajgdgaaGreatDoor.Ab
set_option maxRecDepth 4000
namespace Go.Proofs.YtehjodmnajgdgaaGreatDoor.Ab
open Go.Proofs
theorem Ze (l : List T) (most : Int) (ho : oks l) (hm : 0 ≤ most) (hm2 : most ≤ 1000000) : Pure Tryz.prog 9 [.sl 4 (avs l) none, .i most] (.b (weigh 64 l most < 0)) := by
  intro h
  have hc := Qbl 64 (Nat.le_refl _) l most ho (by omega) hm2
  refine Qe Tryz.func9 rfl Tryz.call9 Tryz.ntmps9 (congrArg Array.toList Tryz.results9) (by simp) ?_
  repeat (first | ((first | (with_reducible (first | refine Qa fun K E hK hE => ?_ | refine Qo hc ?_))); simp -implicitDefEqProofs only [Qd, Qb, Qg, OpW, QO, aop, undef, AS.ev, Qc, Qn, Qr, Qi, Qw, Qns, QnL, ↓reduceIte, Nat.reduceLT, Nat.reduceEqDiff, aBin, Qnn, QnA, QnE, Q0]) | (with_reducible refine Ql ?_) | ((with_reducible refine hK _ ?_); clear hK))
  simp only [QI, Qm, Qu, upd, ↓reduceIte, Qnr, Qnv]; first | refine Qf (htake _ _) (.keep (.v _)) ⟨rfl, rfl⟩ | refine Qf List.take_length (.keep (.v _)) ⟨rfl, rfl⟩
theorem Qhs (i : Int) : Pure Tryz.prog 30 [.i i] (T.mk 0 i eB []).av := by
  intro h
  refine Qe Tryz.func30 rfl Tryz.call30 Tryz.ntmps30 (congrArg Array.toList Tryz.results30) (by simp) ?_
  repeat (first | (((with_reducible refine Qa fun K E hK hE => ?_)); simp -implicitDefEqProofs only [Qd, Qb, Qg, OpW, aop, undef, AS.ev, Qc, QV, Qn, Qi, Qw, Qns, AV.QmP, QB, QU, QJ, QnF, QnG, Qv, Qt, QM, QnH, ↓reduceIte, Qny, Qnz, Nat.reduceAdd, Nat.reduceLT, Nat.reduceLeDiff, Nat.reduceEqDiff, Qnx, QnT, Q5, QW, X4, Yj, QT, YQ, Qnl, Qnm, QnP, Qnn, QnA, QnE, QnN, QnM, Qnw, QnD, Qnu, QnC, ti24, zi24, sp24]) | (with_reducible refine Ql ?_) | ((with_reducible refine hK _ ?_); clear hK))
  simp -implicitDefEqProofs only [Qi, QB, QJ, ↓reduceIte, Qny, Qnz, Nat.reduceAdd, Nat.reduceEqDiff, Qnx, QnT, QT, Qnl, Qnr, ti24, QK, QL, QT, QI, Qm, Qu, Qnv]
  refine Qf (r' := (T.mk 0 i eB []).av) (htake _ _) ?_ ⟨rfl, rfl⟩
  exact .agg rfl (Xt (.keep (.v _)) (Xt (.keep (.v _)) (Xt (.keep (.v _)) (Ys (.nil 4)))))
theorem Ql3 (i : Int) : Pure Tryz.prog 31 [.i i] (T.mk 1 i eB []).av := by
  intro h
  refine Qe Tryz.func31 rfl Tryz.call31 Tryz.ntmps31 (congrArg Array.toList Tryz.results31) (by simp) ?_
  repeat (first | (((with_reducible refine Qa fun K E hK hE => ?_)); simp -implicitDefEqProofs only [Qd, Qb, Qg, OpW, aop, undef, AS.ev, Qc, QV, Qn, Qi, Qw, Qns, AV.QmP, QB, QU, QJ, QnF, QnG, Qv, Qt, QM, QnH, ↓reduceIte, Qny, Qnz, Nat.reduceAdd, Nat.reduceLT, Nat.reduceLeDiff, Nat.reduceEqDiff, Qnx, QnT, Q5, QW, X4, Yj, QT, YQ, Qnl, Qnm, QnP, Qnn, QnA, QnE, QnN, QnM, Qnw, QnD, Qnu, QnC, ti24, zi24, sp24]) | (with_reducible refine Ql ?_) | ((with_reducible refine hK _ ?_); clear hK))
  simp -implicitDefEqProofs only [Qi, QB, QJ, ↓reduceIte, Qny, Qnz, Nat.reduceAdd, Nat.reduceEqDiff, Qnx, QnT, QT, Qnl, Qnr, ti24, QK, QL, QT, QI, Qm, Qu, Qnv]
  refine Qf (r' := (T.mk 1 i eB []).av) (htake _ _) ?_ ⟨rfl, rfl⟩
  exact .agg rfl (Xt (.keep (.v _)) (Xt (.keep (.v _)) (Xt (.keep (.v _)) (Ys (.nil 4)))))
theorem QcD (s : ByteArray) (t u : T) : Pure Tryz.prog 28 [.v (.string s), .sl 4 [t.av, u.av] none] (T.mk 2 0 s [t, u]).av := by
  intro h
  have h1 : 1 + 1 ≤ maxLen := by simp only [maxLen]; omega
  have h2 : (1 + 1) * 56 ≤ 140737488355328 := by omega
  refine Qe Tryz.func28 rfl Tryz.call28 Tryz.ntmps28 (congrArg Array.toList Tryz.results28) (by simp) ?_
  repeat (first | ((first | (with_reducible (first | refine Qa fun K E hK hE => ?_ | refine Qmj ?_))); simp -implicitDefEqProofs only [Qd, Qb, Qg, OpW, aop, undef, AS.ev, Qc, QV, Qn, Qi, Qw, Qns, QnL, AV.QmP, QB, QU, Yf, QJ, QnF, QnG, Qv, Qt, QM, QC, QnH, ↓reduceIte, Qny, Qnz, Nat.reduceAdd, Nat.reduceLT, Nat.reduceLeDiff, Nat.reduceEqDiff, Nat.reduceMul, Qnx, QnU, QnT, Q5, QW, X4, Yj, QP, Za, YK, QT, hget, YQ, hset, hlen, happ, Qnl, Qnm, QnP, QnQ, Qnn, QnA, QnE, QnN, QnM, QnO, Qnw, QnD, Qnu, QnC, Qnt, rng0, Q2, Nat.reducePow, Nat.zero_le, Nat.zero_mul, ei22, ai22, ti24, zi24, sp24, h1, h2]) | (with_reducible refine Ql ?_) | ((with_reducible refine hK _ ?_); clear hK))
  simp -implicitDefEqProofs only [Qi, QB, QJ, ↓reduceIte, Qny, Qnz, Nat.reduceAdd, Nat.reduceEqDiff, Qnx, QnT, QT, Qnl, Qnr, ti24, QK, QL, QT, QI, Qm, Qu, Qnv]
  exact Qf (r' := .agg [.i 2, .i 0, .v (.string s), .sl 4 (avs [t, u]) none]) (htake _ _) (.agg rfl (Xt (.keep (.v _)) (Xt (.keep (.v _)) (Xt (.keep (.v _)) (Ys (.tok (xs := avs [t, u]) (Qbp _ [t, u]))))))) ⟨by simp only [T.av], rfl⟩
theorem Qc5 (t : T) (hn : t.nds ≤ 1000000) : Pure Tryz.prog 22 [t.av, t.av] (.b true) := by
  have := Qgo t t hn
  rw [QgU] at this
  exact this
mutual
theorem T.QmY : ∀ t : T, t.QmQ = true → t.nds = t.size
  | .mk k i n l, h => by
    simp only [T.QmQ] at h
    simp only [T.nds, T.size]
    split at h
    · rename_i k0
      simp only [Bool.and_eq_true, List.isEmpty_iff] at h
      rw [if_neg (by omega), h.2]; rfl
    · split at h
      · rename_i k0 k1
        simp only [Bool.and_eq_true, List.isEmpty_iff] at h
        rw [if_neg (by omega), h.2]; rfl
      · split at h
        · rename_i k2
          split at h
          · cases h
          · split at h
            · cases h
            · rw [if_pos k2, Qg9 l h]
        · cases h
theorem Qg9 : ∀ l : List T, X7 l = true → ndsL l = sizes l
  | [], _ => rfl
  | t :: l, h => by
    simp only [X7, Bool.and_eq_true] at h
    simp only [ndsL, sizes]
    rw [T.QmY t h.1, Qg9 l h.2]
end
theorem Qak {t : T} (h : (t.run 200 20).1 = true) : t.QmQ = true ∧ t.nds ≤ 200 ∧ (t.run 200 20).2 = 200 - t.size := by
  obtain ⟨h1, h2⟩ := T.QmX t 200 20
  rw [h] at h1
  have h3 := h1.symm
  simp only [Bool.and_eq_true, decide_eq_true_eq] at h3
  refine ⟨h3.1, ?_, h2 h⟩
  rw [T.QmY t h3.1]; omega
def txtT (t : T) : ByteArray := if t.QmV = true then t.txt else { data := #[] }
theorem QkA {h : AH} {i j p : Nat} (hi : i < h.length) (hj : j < h.length) (hij : i ≠ j) (hpi : i ≠ p) (hpj : j ≠ p) (t : T) (gp : h[p]? = some (.cells 24 4 [t.av])) (hx : t.lex)
    (hG : XT (HB h i j true (.empty))) (u : Bool) (tx : ByteArray) (hs : tx.size + t.txt.size ≤ 140737488355328) :
    Wri 34 [.ptr i 0 0, .ptr p 0 0] h i j u tx t.txt := by
  have k1 : ∀ u tx, (HB h i j u tx)[p]? = some (.cells 24 4 [t.av]) := fun u tx => by
    rw [HB, Ym _ _ hpi hpj, gp]
  have c1 := T.Qm2 t hx i j hij h hi hj hG u tx hs
  rw [Wri] at c1
  refine Qe Tryz.func34 rfl Tryz.call34 Tryz.ntmps34 (congrArg Array.toList Tryz.results34) (by simp) ?_
  repeat (first | ((first | (with_reducible (first | refine Qs fun K E hK hE => ?_ | refine FunW.ret (FunW.call c1) ?_))); simp -implicitDefEqProofs only [Qd, Qb, Qg, OpW, QO, aop, undef, AS.ev, Qc, Qi, Qw, Qns, QnL, ↓reduceIte, Qny, Qnz, Nat.reduceAdd, Nat.reduceLT, Nat.reduceEqDiff, Qnx, QnT, QK, QL, Qnl, Qnn, QnA, QnE, T.QmN, T.QmO, ti24, k1, T.QmN, T.QmO]) | ((with_reducible refine hK _ ?_); clear hK))
  simp -implicitDefEqProofs only [Qnn, Qnr, List.mapM_nil, Option.pure_def, Qnn, QI, Qm, Qnv]
  exact .inr ⟨rfl, rfl⟩
theorem ZR (t : T) (h : AH) (hG : XT h) : Xd Tryz.prog 11 [t.av] h fun o h' => o = .ret (.v (.string (txtT t))) ∧ h' = h := by
  have cr := Qev t
  cases hr : t.QmV with
  | false =>
    rw [hr] at cr
    have c1 := Qhq (.fn (.func 34) [] [.ptr h.length 0 0])
    refine Qe Tryz.func11 rfl Tryz.call11 Tryz.ntmps11 (congrArg Array.toList Tryz.results11) (by simp) ?_
    repeat (first | ((first | (with_reducible (first | refine Qa fun K E hK hE => ?_ | refine Qo cr ?_ | refine Qo c1 ?_))); simp -implicitDefEqProofs only [Qd, Qb, Qg, OpW, QO, aop, undef, AS.ev, Qc, QG, Qi, Qw, Qns, AV.QmP, QnF, QnG, Qv, Qt, QC, QnH, ↓reduceIte, Qny, Qnz, Nat.reduceAdd, Nat.reduceLT, Nat.reduceEqDiff, Qnx, QnT, QK, QL, QT, Qnl, Qnn, QnA, QnE, T.QmN, T.QmO, ti24, T.QmN, T.QmO]) | (with_reducible refine Ql ?_) | ((with_reducible refine hK _ ?_); clear hK))
    simp only [QI, Qm, Qu, upd, ↓reduceIte, Qnr, Qnv]; first | refine Qf (htake _ _) (.keep (.v _)) ⟨by rw [txtT, if_neg (by rw [hr]; decide)], rfl⟩ | refine Qf List.take_length (.keep (.v _)) ⟨by rw [txtT, if_neg (by rw [hr]; decide)], rfl⟩
  | true =>
    rw [hr] at cr
    obtain ⟨r1, r2, r3⟩ := Qak (t := t) hr
    obtain ⟨hx, hs0, hs1, hs2⟩ := T.Qm3 t 200 20 hr
    have hsz := T.QmY t r1
    have hk := QkA (h := h ++ [AB.cells 24 4 [t.av]] ++ [AB.dead, AB.dead]) (i := (h ++ [AB.cells 24 4 [t.av]]).length) (j := (h ++ [AB.cells 24 4 [t.av]]).length + 1) (p := h.length)
      (by simp) (by simp) (by omega) (by simp) (by simp; omega) t (by simp) hx (Qfm hG _) false .empty (by rw [show (ByteArray.empty).size = 0 from rfl]; omega)
    rw [Wri, ByteArray.empty_append] at hk
    have c1 := QfY (.fn (.func 34) [] [.ptr h.length 0 0]) (.tup []) t.txt (h ++ [AB.cells 24 4 [t.av]]) hs1 (by omega) (FunW.fn hk)
    refine Qe Tryz.func11 rfl Tryz.call11 Tryz.ntmps11 (congrArg Array.toList Tryz.results11) (by simp) ?_
    repeat (first | ((first | (with_reducible (first | refine Qa fun K E hK hE => ?_ | refine Qo cr ?_ | refine FunW.ret (FunW.call c1) ?_))); simp -implicitDefEqProofs only [Qd, Qb, Qg, OpW, QO, aop, undef, AS.ev, Qc, QG, Qi, Qw, Qns, AV.QmP, QnF, QnG, Qv, Qt, QC, QnH, ↓reduceIte, Qny, Qnz, Nat.reduceAdd, Nat.reduceLT, Nat.reduceEqDiff, Qnx, QnT, QK, QL, QT, Qnl, Qnn, QnA, QnE, T.QmN, T.QmO, ti24, T.QmN, T.QmO]) | (with_reducible refine Ql ?_) | ((with_reducible refine hK _ ?_); clear hK))
    simp only [QI, Qm, Qu, upd, ↓reduceIte, Qnr, Qnv]; first | refine Qf (htake _ _) (.keep (.v _)) ⟨by rw [txtT, if_pos hr], rfl⟩ | refine Qf List.take_length (.keep (.v _)) ⟨by rw [txtT, if_pos hr], rfl⟩
theorem Qgq (t : T) (hn : t.nds ≤ 1000000) (ho : t.ok) : Pure Tryz.prog 12 [t.av] (.v (.string (txtT t))) := by
  intro h
  have cr := Xw t hn ho
  cases hr : (t.run 200 20).1 with
  | false =>
    rw [hr] at cr
    refine Qe Tryz.func12 rfl Tryz.call12 Tryz.ntmps12 (congrArg Array.toList Tryz.results12) (by simp) ?_
    repeat (first | ((first | (with_reducible (first | refine Qa fun K E hK hE => ?_ | refine Qo cr ?_))); simp -implicitDefEqProofs only [Qd, Qb, Qg, OpW, QO, aop, undef, AS.ev, Qc, QG, Qi, Qw, Qns, AV.QmP, QnF, QnG, Qv, Qt, QC, QnH, QnJ, ↓reduceIte, Qny, Qnz, Nat.reduceAdd, Nat.reduceLT, Nat.reduceEqDiff, Qnx, QnT, QK, QL, QT, Qnl, Qnn, QnA, QnE, Xa, T.QmN, T.QmO, ti24, T.QmN, T.QmO]) | (with_reducible (first | refine Qh fun K hK => ?_ | refine Ql ?_ | refine Qy ?_)) | ((with_reducible refine hK _ ?_); clear hK) | (refine Qk rfl ?_; simp only [↓reduceIte]))
    simp only [QI, Qm, Qu, upd, ↓reduceIte, Qnr, Qnv]; first | refine Qf (htake _ _) (.keep (.v _)) ⟨by rw [txtT, if_neg (by rw [T.QmV, hr]; decide)], rfl⟩ | refine Qf List.take_length (.keep (.v _)) ⟨by rw [txtT, if_neg (by rw [T.QmV, hr]; decide)], rfl⟩
  | true =>
    rw [hr] at cr
    have cw := QcX t hn (Qak hr).1 ho
    refine Qe Tryz.func12 rfl Tryz.call12 Tryz.ntmps12 (congrArg Array.toList Tryz.results12) (by simp) ?_
    repeat (first | ((first | (with_reducible (first | refine Qa fun K E hK hE => ?_ | refine Qo cr ?_ | refine Qo cw ?_))); simp -implicitDefEqProofs only [Qd, Qb, Qg, OpW, QO, aop, undef, AS.ev, Qc, QG, Qi, Qw, Qns, AV.QmP, QnF, QnG, Qv, Qt, QC, QnH, QnI, ↓reduceIte, Qny, Qnz, Nat.reduceAdd, Nat.reduceLT, Nat.reduceEqDiff, Qnx, QnT, QK, QL, QT, Qnl, Qnn, QnA, QnE, Xa, T.QmN, T.QmO, ti24, T.QmN, T.QmO]) | (with_reducible (first | refine Qh fun K hK => ?_ | refine Ql ?_ | refine QA ?_ | refine Qj ?_)) | ((with_reducible refine hK _ ?_); clear hK) | (refine Qk rfl ?_; simp only [↓reduceIte, Qnp]))
    simp only [QI, Qm, Qu, upd, ↓reduceIte, Qnr, Qnv]; first | refine Qf (htake _ _) (.keep (.v _)) ⟨by rw [txtT, if_pos (by rw [T.QmV, hr])], rfl⟩ | refine Qf List.take_length (.keep (.v _)) ⟨by rw [txtT, if_pos (by rw [T.QmV, hr])], rfl⟩
end Go.Proofs.YtehjodmnajgdgaaGreatDoor.Ab
set_option maxRecDepth 4000
namespace Go.Proofs.YtehjodmnajgdgaaGreatDoor.Ab
open Go.Proofs
abbrev miB : ByteArray := { data := #[45] }
abbrev xI (i : Int) : T := .mk 0 i eB []
abbrev x21 : T := .mk 2 0 miB [xI 2, xI 1]
abbrev QlT : T := .mk 2 0 miB [xI 7, x21]
def xT : T := .mk 2 0 ⟨#[42]⟩ [.mk 2 0 ⟨#[102]⟩ [.mk 1 1 eB [], .mk 0 2 eB []], .mk 0 3 eB []]
def xA : G := ⟨0, ⟨#[108, 101, 113]⟩, [.mk 1 0 eB [], .mk 2 0 ⟨#[97]⟩ []]⟩
def xG : G := ⟨11, { data := #[] }, [.mk 1 0 eB []]⟩
theorem exT1 : txtT QlT = { data := #[55, 32, 45, 32, 40, 50, 32, 45, 32, 49, 41] } := by kernel_rfl
theorem exT2 : txtT xT = { data := #[102, 40, 86, 49, 44, 32, 50, 41, 32, 42, 32, 51] } := by kernel_rfl
theorem exT3 : txtA xA = { data := #[108, 101, 113, 40, 86, 48, 44, 32, 97, 41] } := by kernel_rfl
theorem exT4 : txtG xG = { data := #[105, 110, 116, 40, 86, 48, 41] } := by kernel_rfl
theorem XJ (h : AH) (hT : Tabs h) : Xd Tryz.prog 10 [] h fun o h' => o = .ret (.b true) ∧ h' = h := by
  have i7 := Qhs 7
  have i2 := Qhs 2
  have i1 := Qhs 1
  have v0 := Ql3 0
  have f1 := QcD miB (xI 2) (xI 1)
  have f2 := QcD miB (xI 7) x21
  have p1 : ∀ L, Xd Tryz.prog 18 [.v (.string { data := #[102, 40, 86, 49, 44, 50, 41, 42, 51] })] (h ++ L) fun o h' => o = .ret (.tup [xT.av, .i 0]) ∧ h' = h ++ L := fun L => by
    have := Qau [102, 40, 86, 49, 44, 50, 41, 42, 51] (by simp) (h ++ L) (hT.app L)
    rw [exP1] at this
    exact this
  have p2 : ∀ L, Xd Tryz.prog 18 [.v (.string { data := #[102, 40, 88, 41] })] (h ++ L) fun o h' => o = .ret (.tup [(T.mk 0 0 eB []).av, .i 7]) ∧ h' = h ++ L := fun L => by
    have := Qau [102, 40, 88, 41] (by simp) (h ++ L) (hT.app L)
    rw [exP2] at this
    exact this
  have p3 : ∀ L, Xd Tryz.prog 20 [.v (.string { data := #[108, 101, 113, 40, 32, 86, 48, 32, 44, 32, 97, 32, 41] })] (h ++ L) fun o h' => o = .ret (.tup [xA.atom, .i 0]) ∧ h' = h ++ L := fun L => by
    have := QeP [108, 101, 113, 40, 32, 86, 48, 32, 44, 32, 97, 32, 41] (by simp) (h ++ L) (hT.app L)
    rw [exP3] at this
    exact this
  have p4 : ∀ L, Xd Tryz.prog 18 [.v (.string { data := #[49, 32, 50] })] (h ++ L) fun o h' => o = .ret (.tup [(T.mk 0 0 eB []).av, .i 16]) ∧ h' = h ++ L := fun L => by
    have := Qau [49, 32, 50] (by simp) (h ++ L) (hT.app L)
    rw [exP4] at this
    exact this
  have c1 := fun L => ZR QlT (h ++ L) (hT.app L).1
  have c2 := fun L => ZR xT (h ++ L) (hT.app L).1
  have c3 := fun L => Qav xA (by decide) (h ++ L) (hT.app L).1
  have c4 : ∀ L, Xd Tryz.prog 14 [.agg [.i 11, .v (.string { data := #[] }), .sl 4 [(T.mk 1 0 eB []).av] none]] (h ++ L) fun o h' => o = .ret (.v (.string (txtG xG))) ∧ h' = h ++ L := fun L => Qck xG (by decide) (h ++ L) (hT.app L).1
  rw [exT1] at c1
  rw [exT2] at c2
  rw [exT3] at c3
  rw [exT4] at c4
  refine Qe Tryz.func10 rfl Tryz.call10 Tryz.ntmps10 (congrArg Array.toList Tryz.results10) (by simp) ?_
  iterate 21 (try (first | ((first | (with_reducible (first | refine Qa fun K E hK hE => ?_ | refine Qo i7 ?_ | refine Qo i2 ?_ | refine Qo i1 ?_ | refine Qo f1 ?_ | refine Qo f2 ?_ | refine FunW.ret (FunW.call (p1 _)) ?_ | refine FunW.ret (FunW.call (p2 _)) ?_ | refine FunW.ret (FunW.call (p3 _)) ?_ | refine FunW.ret (FunW.call (p4 _)) ?_))); simp -implicitDefEqProofs only [Qd, Qb, Qg, OpW, QO, aop, undef, AS.ev, Qc, QV, Qn, Qr, QG, Qi, Qw, AV.QmP, QB, QJ, QnF, QnG, Qv, Qt, QM, QC, QnH, ↓reduceIte, Qny, Qnz, Nat.reduceAdd, Nat.reduceLT, Nat.reduceLeDiff, Nat.reduceEqDiff, Nat.reduceMul, Qnx, QnT, Q5, QW, XB, QP, QT, hget, YQ, hset, hlen, happ, Qnl, Qnm, QnP, QnQ, Qnn, QnA, QnE, QnN, QnM, Qnt, rng2, Q2, Nat.reducePow, T.QmN, T.QmO, ei22, ti24, zi24, ti34, zi34, T.QmN, T.QmO, Xm, XP]) | ((with_reducible refine hK _ ?_); clear hK)))
  (with_reducible refine Qa fun K E hK hE => ?_)
  (try simp only [QnW]); refine Qz 4 (fun K1 hK1 => ?_); simp -implicitDefEqProofs only [Qb, Qg, OpW, aop, AS.ev, Qc, Qi, ↓reduceIte, Qny, Qnz, Nat.reduceAdd, Nat.reduceLT, Nat.reduceEqDiff, Qnx, QnT, QK, QL, QT, Qnl, Qnn, QnA, QnE, Qnw, QnD, T.QmN, T.QmO, ti24, T.QmN, T.QmO]; (repeat ((((with_reducible refine FunW.ret (FunW.call (c1 _)) ?_)); simp -implicitDefEqProofs only [Qd, Qb, Qg, OpW, QO, aop, AS.ev, Qc, QG, Qi, ↓reduceIte, Nat.reduceLT, aBin, Qnn, QY, Qnt]))); refine hK1 _ ?_; clear hK1
  (try simp only [Qnu, QnC]); refine Qz 4 (fun K1 hK1 => ?_); simp -implicitDefEqProofs only [Qd, Qb, Qg, OpW, aop, AS.ev, Qc, Qn, Qi, ↓reduceIte, Nat.reduceLT, Nat.reduceEqDiff, aBin, Qnl, Qnm, Qnn, Qnq, Qno, Qnw, QnD, QS, Qnt]; refine hK1 _ ?_; clear hK1
  (try simp only [Qnu, QnC]); refine Qz 6 (fun K1 hK1 => ?_); simp -implicitDefEqProofs only [Qb, Qg, OpW, aop, AS.ev, Qc, Qi, ↓reduceIte, Qny, Qnz, Nat.reduceAdd, Nat.reduceLT, Nat.reduceEqDiff, Qnx, QnT, QK, QL, hget, Qnl, Qnm, Qnn, Qnq, Qno, QnA, QnE, Qnw, QnD, Qnt, T.QmN, T.QmO, ti24, T.QmN, T.QmO]; (repeat ((((with_reducible refine FunW.ret (FunW.call (c2 _)) ?_)); simp -implicitDefEqProofs only [Qd, Qb, Qg, OpW, QO, aop, AS.ev, Qc, QG, Qi, ↓reduceIte, Nat.reduceLT, Nat.reduceEqDiff, aBin, Qnl, Qnm, Qnn, Qnq, Qno, QY, Qnt]))); refine hK1 _ ?_; clear hK1
  (try simp only [Qnu, QnC]); refine Qz 6 (fun K1 hK1 => ?_); simp -implicitDefEqProofs only [Qd, Qb, Qg, OpW, aop, AS.ev, Qc, Qn, Qi, ↓reduceIte, Nat.reduceLT, Nat.reduceEqDiff, aBin, Qnl, Qnm, Qnn, Qnq, Qno, Qnw, QnD, QS, Qnt]; refine hK1 _ ?_; clear hK1
  (try simp only [Qnu, QnC]); refine Qz 6 (fun K1 hK1 => ?_); simp -implicitDefEqProofs only [Qb, Qg, OpW, aop, AS.ev, Qc, Qi, ↓reduceIte, Qny, Qnz, Nat.reduceAdd, Nat.reduceLT, Nat.reduceEqDiff, Qnx, QnT, QK, QL, hget, Qnl, Qnm, Qnn, Qnq, Qno, QnA, QnE, Qnw, QnD, Qnt, ti34, Xm, XP]; (repeat ((((with_reducible refine FunW.ret (FunW.call (c3 _)) ?_)); simp -implicitDefEqProofs only [Qd, Qb, Qg, OpW, QO, aop, AS.ev, Qc, QG, Qi, ↓reduceIte, Nat.reduceLT, Nat.reduceEqDiff, aBin, Qnl, Qnm, Qnn, Qnq, Qno, QY, Qnt]))); refine hK1 _ ?_; clear hK1
  (try simp only [Qnu, QnC]); refine Qz 4 (fun K1 hK1 => ?_); simp -implicitDefEqProofs only [Qd, Qb, Qg, OpW, aop, AS.ev, Qc, Qn, Qi, ↓reduceIte, Nat.reduceLT, Nat.reduceEqDiff, aBin, Qnl, Qnm, Qnn, Qnq, Qno, Qnw, QnD, QS, Qnt]; refine hK1 _ ?_; clear hK1
  (try simp only [Qnu, QnC])
  simp -implicitDefEqProofs only [Qb, Qg, OpW, AS.ev, Qn, Qi, ↓reduceIte, Qnl, Qnm, Qnq, Qno, QnA, QnE, Qnt]
  repeat (first | ((first | (with_reducible (first | refine Qo v0 ?_ | refine FunW.ret (FunW.call (c4 _)) ?_))); simp -implicitDefEqProofs only [Qd, Qb, Qg, OpW, QO, aop, undef, AS.ev, Qc, Qn, QG, Qi, Qw, AV.QmP, QB, QU, Yf, QJ, QnF, QnG, Qv, Qt, QM, QC, QnH, ↓reduceIte, Qny, Qnz, Nat.reduceAdd, Nat.reduceLT, Nat.reduceLeDiff, Nat.reduceEqDiff, Nat.reduceMul, Qnx, QnT, aBin, X4, Yj, QP, Qnl, Qnm, Qnn, Qnq, Qno, QnA, QnE, QnN, QnM, QnO, Qnw, QnD, Qnu, QnC, QY, Qnt, rng1, Q2, Nat.reducePow, T.QmN, ei22, zi24, zi30, sp30]) | (with_reducible refine Ql ?_) | ((with_reducible refine hK _ ?_); clear hK))
  simp only [QI, Qm, Qu, upd, ↓reduceIte, Qnr, Qnv]
  exact Qf (htake _ _) (.keep (.v _)) ⟨rfl, rfl⟩
end Go.Proofs.YtehjodmnajgdgaaGreatDoor.Ab
set_option maxRecDepth 4000
namespace Go.Proofs.YtehjodmnajgdgaaGreatDoor.Ab
open Go.Proofs
theorem Qk4 (t : T) (ho : t.ok) (h : AH) (hT : Tabs h) : Xd Tryz.prog 3 [t.av] h fun o h' => o = .ret (.b true) ∧ h' = h := by
  have cg : Pure Tryz.prog 9 [.sl 4 [t.av] none, .i 500] _ := Ze [t] 500 ⟨ho, trivial⟩ (by decide) (by decide)
  have ce := fun L => XJ (h ++ L) (hT.app L)
  by_cases hw : weigh 64 [t] 500 < 0
  · rw [decide_eq_true hw] at cg
    refine Qe Tryz.func3 rfl Tryz.call3 Tryz.ntmps3 (congrArg Array.toList Tryz.results3) (by simp) ?_
    repeat (first | ((first | (with_reducible (first | refine Qa fun K E hK hE => ?_ | refine Qo cg ?_ | refine FunW.ret (FunW.call (ce _)) ?_))); simp -implicitDefEqProofs only [Qd, Qb, Qg, OpW, QO, aop, undef, AS.ev, Qc, Qn, Qr, Qi, Qw, Qns, AV.QmP, QB, QnF, QnG, Qv, Qt, QM, QC, QnH, ↓reduceIte, Qny, Qnz, Nat.reduceAdd, Nat.reduceLT, Nat.reduceLeDiff, Nat.reduceEqDiff, Nat.reduceMul, Qnx, QnT, QK, QL, QP, QT, Qnl, Qnn, QnA, QnE, Qnt, rng1, Q2, Nat.reducePow, T.QmN, T.QmO, ei22, ti24, zi24, T.QmN, T.QmO]) | (with_reducible (first | refine Qh fun K hK => ?_ | refine Ql ?_ | refine Qy ?_)) | ((with_reducible refine hK _ ?_); clear hK) | (refine Qk rfl ?_; simp only [↓reduceIte]))
    simp only [QI, Qm, Qu, upd, ↓reduceIte, Qnr, Qnv]; first | refine Qf (htake _ _) (.keep (.v _)) ⟨rfl, rfl⟩ | refine Qf List.take_length (.keep (.v _)) ⟨rfl, rfl⟩
  · rw [decide_eq_false hw] at cg
    have hn := Qat hw
    have hn' : t.nds ≤ 1000000 := by simp only [ndsL] at hn; omega
    have c1 := fun L => ZR t (h ++ L) (hT.app L).1
    have c2 := Qgq t hn' ho
    refine Qe Tryz.func3 rfl Tryz.call3 Tryz.ntmps3 (congrArg Array.toList Tryz.results3) (by simp) ?_
    repeat (first | ((first | (with_reducible (first | refine Qa fun K E hK hE => ?_ | refine Qo cg ?_ | refine QQ c2 ?_ | refine Xs (FunW.call (c1 _)) (ZL _) ?_ | refine Xs (FunW.call (ce _)) (ZL _) ?_)) | (refine QR (id := 3) [(0, 0), (2, 0), (1, 3), (3, 1), (4, 0), (5, 0), (6, 3), (7, 0), (8, 0)] mixed (by kernel_rfl) fun K hK => ?_)); simp -implicitDefEqProofs only [Q4, Q1, Xb, Qd, Qb, Qg, OpW, QO, aop, undef, AS.ev, Qc, Qn, Qr, Qi, Qw, Qns, AV.QmP, QB, QnF, QnG, Qv, Qt, QM, QC, QnH, ↓reduceIte, Qny, Qnz, Nat.reduceAdd, Nat.reduceLT, Nat.reduceLeDiff, Nat.reduceEqDiff, Nat.reduceMul, Qnx, QnT, QK, QL, aBin, QP, QT, Qnl, Qnm, Qnn, Qnq, Qno, QnA, QnE, QY, Qnt, rng1, Q2, Nat.reducePow, T.QmN, T.QmO, ei22, ti24, zi24, T.QmN, T.QmO]) | (with_reducible (first | refine Qh fun K hK => ?_ | refine Ql ?_ | refine QA ?_ | refine Qj ?_)) | ((with_reducible refine hK _ ?_); clear hK) | (refine Qk rfl ?_; simp only [↓reduceIte, Qnp]))
    simp only [QI, Qm, Qu, upd, ↓reduceIte, Qnr, Qnv]; first | refine Qf (htake _ _) (.keep (.v _)) ⟨rfl, rfl⟩ | refine Qf List.take_length (.keep (.v _)) ⟨rfl, rfl⟩
theorem Qle (g : G) (ho : g.ok) (h : AH) (hT : Tabs h) : Xd Tryz.prog 4 [g.goal] h fun o h' => o = .ret (.b true) ∧ h' = h := by
  have cg : Pure Tryz.prog 13 [.sl 3 [g.goal] none, .i 500] _ := QeR [g] 500 (by intro x hx; rw [List.mem_singleton.1 hx]; exact ho) (by simp) (by decide) (by decide)
  have ce := fun L => XJ (h ++ L) (hT.app L)
  by_cases hw : YT [g] 500 < 0
  · rw [decide_eq_true hw] at cg
    refine Qe Tryz.func4 rfl Tryz.call4 Tryz.ntmps4 (congrArg Array.toList Tryz.results4) (by simp) ?_
    repeat (first | ((first | (with_reducible (first | refine Qa fun K E hK hE => ?_ | refine Qo cg ?_ | refine FunW.ret (FunW.call (ce _)) ?_))); simp -implicitDefEqProofs only [Qd, Qb, Qg, OpW, QO, aop, undef, AS.ev, Qc, Qn, Qr, Qi, Qw, Qns, AV.QmP, QB, QnF, QnG, Qv, Qt, QM, QC, QnH, ↓reduceIte, Qny, Qnz, Nat.reduceAdd, Nat.reduceLT, Nat.reduceLeDiff, Nat.reduceEqDiff, Nat.reduceMul, Qnx, QnT, QK, QL, QP, QT, Qnl, Qnn, QnA, QnE, Qnt, rng1, Q2, Nat.reducePow, ti30, zi30, ei32, Q7, Yo]) | (with_reducible (first | refine Qh fun K hK => ?_ | refine Ql ?_ | refine Qy ?_)) | ((with_reducible refine hK _ ?_); clear hK) | (refine Qk rfl ?_; simp only [↓reduceIte]))
    simp only [QI, Qm, Qu, upd, ↓reduceIte, Qnr, Qnv]; first | refine Qf (htake _ _) (.keep (.v _)) ⟨rfl, rfl⟩ | refine Qf List.take_length (.keep (.v _)) ⟨rfl, rfl⟩
  · rw [decide_eq_false hw] at cg
    have hn := QeN [g] 500 (by omega)
    have hn' : ndsL g.args ≤ 1000000 := by simp only [ndsG] at hn; omega
    have hl := XZ g.args
    have c1 := fun L => Qck g (by omega) (h ++ L) (hT.app L).1
    have c2 := Qdp g hn' ho
    have c3 := fun L => Qav g (by omega) (h ++ L) (hT.app L).1
    have c4 := Qdq g hn' ho
    have ga : (AV.agg [.v (.string g.name), .sl 4 (avs g.args) none]) = g.atom := rfl
    refine Qe Tryz.func4 rfl Tryz.call4 Tryz.ntmps4 (congrArg Array.toList Tryz.results4) (by simp) ?_
    repeat (first | ((first | (with_reducible (first | refine Qa fun K E hK hE => ?_ | refine Qo cg ?_ | refine QQ c2 ?_ | refine QQ c4 ?_ | refine Xs (FunW.call (c1 _)) (ZL _) ?_ | refine Xs (FunW.call (c3 _)) (ZL _) ?_ | refine Xs (FunW.call (ce _)) (ZL _) ?_)) | (refine QR (id := 4) [(0, 0), (2, 0), (1, 3), (3, 1), (4, 0), (5, 0), (6, 0), (8, 0), (7, 3), (9, 1), (10, 0), (11, 0), (12, 0), (13, 3), (14, 0), (15, 0)] mixed (by kernel_rfl) fun K hK => ?_)); simp -implicitDefEqProofs only [Q4, Q1, Xb, Qd, Qb, Qg, OpW, QO, aop, undef, AS.ev, Qc, QV, Qn, Qr, Qi, Qw, Qns, AV.QmP, QB, QU, Yf, QJ, QnF, QnG, Qv, Qt, QM, QC, QnH, ↓reduceIte, Qny, Qnz, Nat.reduceAdd, Nat.reduceLT, Nat.reduceLeDiff, Nat.reduceEqDiff, Nat.reduceMul, Qnx, QnT, Qp, QK, QL, Q5, QW, aBin, X4, Yj, QP, QT, hget, hset, hlen, happ, Qnl, Qnm, QnP, QnQ, Qnn, Qnq, Qno, QnA, QnE, QnN, QnM, QnO, Qnw, QnD, Qnu, QnC, QY, Qnt, rng1, Q2, Nat.reducePow, ti9, ti22, ti30, QaO, Zq, zi30, ei32, ti34, zi34, sp34, Q7, Yo, ga, Xm, XP]) | (with_reducible (first | refine Qh fun K hK => ?_ | refine Ql ?_ | refine QA ?_ | refine Qj ?_)) | ((with_reducible refine hK _ ?_); clear hK) | (refine Qk rfl ?_; simp only [↓reduceIte, Qnp]))
    simp only [QI, Qm, Qu, upd, ↓reduceIte, Qnr, Qnv]; first | refine Qf (htake _ _) (.keep (.v _)) ⟨rfl, rfl⟩ | refine Qf List.take_length (.keep (.v _)) ⟨rfl, rfl⟩
end Go.Proofs.YtehjodmnajgdgaaGreatDoor.Ab
namespace Go.Proofs.YtehjodmnajgdgaaGreatDoor.Ab
open Go.Proofs
def G.aok (g : G) : Prop := g.op = 0 ∧ g.ok
theorem QgZ {n : Int} (h : (Lit.int .i64 n).wf = true) : i64 n := by
  simpa [Lit.wf, IntKind.min, IntKind.max, IntKind.signed, IntKind.bits, i64] using h
theorem QhY : ∀ (l : List T), (∀ t ∈ l, t.ok) → oks l
  | [], _ => trivial
  | t :: l, h => ⟨h t (by simp), QhY l fun x hx => h x (by simp [hx])⟩
theorem QjZ {n : Nat} (h : n ≤ maxLen) : n ≤ 9223372036854775807 := by simp only [maxLen] at h; omega
theorem QiD {c : Cx} {s : Nat} {xs : List AV} {own : Option Nat} {u : Value} (h : Rel c (.sl s xs own) u) : xs.length ≤ 9223372036854775807 := by
  cases h with
  | slnil => exact Nat.zero_le _
  | slzero => exact Nat.zero_le _
  | sl _ _ _ B o cap f hs hcap hmax hc hr ht => simp only [maxLen] at hmax; omega
theorem QcW {X : Type} {f : X → AV} {c : Cx} {s : Nat} {xs : List X} {own : Option Nat} {u : Value} (h : Rel c (.sl s (xs.map f) own) u) : xs.length ≤ 9223372036854775807 := by
  have := QiD h; rwa [List.length_map] at this
theorem ZU {H : Type} (enc : TypeId × Value → H) (W : World) : ∀ (fuel : Nat) (cs : List Value) (y : DataW H × List MemPlace), DataW.trod enc Tryz.prog W 0 (fun _ => true) true fuel 24 cs = some y → ∃ p : T, T.ok p ∧ Reads W (T.av p) cs := by
  intro fuel
  induction fuel using Nat.strongRecOn with
  | _ fuel ih =>
  intro cs y h
  obtain ⟨xs, fu, hfu, _, hl, hlen, hf⟩ := DataW.trod_struct Tryz.underlying24 h
  have hC : Tryz.prog.cellsOf 24 = 4 := by kernel_rfl
  rw [hC] at hl
  have hlenN : xs.length = 4 := hlen
  obtain ⟨y0, l1, rfl, k1⟩ := Xi hlenN
  obtain ⟨y1, l2, rfl, k2⟩ := Xi k1
  obtain ⟨y2, l3, rfl, k3⟩ := Xi k2
  obtain ⟨y3, l4, rfl, k4⟩ := Xi k3
  obtain rfl := len_nil k4
  obtain ⟨c0, l1, rfl, k1⟩ := Xi hl
  obtain ⟨c1, l2, rfl, k2⟩ := Xi k1
  obtain ⟨c2, l3, rfl, k3⟩ := Xi k2
  obtain ⟨c3, l4, rfl, k4⟩ := Xi k3
  obtain rfl := len_nil k4
  have g0 : DataW.trod enc Tryz.prog W 0 (fun _ => true) true fu 3 (([c0, c1, c2, c3].drop 0).take (Tryz.prog.cellsOf 3)) = some y0 := hf 0 _ rfl
  rw [show Tryz.prog.cellsOf 3 = 1 by kernel_rfl] at g0
  have g1 : DataW.trod enc Tryz.prog W 0 (fun _ => true) true fu 3 (([c0, c1, c2, c3].drop 1).take (Tryz.prog.cellsOf 3)) = some y1 := hf 1 _ rfl
  rw [show Tryz.prog.cellsOf 3 = 1 by kernel_rfl] at g1
  have g2 : DataW.trod enc Tryz.prog W 0 (fun _ => true) true fu 9 (([c0, c1, c2, c3].drop 2).take (Tryz.prog.cellsOf 9)) = some y2 := hf 2 _ rfl
  rw [show Tryz.prog.cellsOf 9 = 1 by kernel_rfl] at g2
  have g3 : DataW.trod enc Tryz.prog W 0 (fun _ => true) true fu 22 (([c0, c1, c2, c3].drop 3).take (Tryz.prog.cellsOf 22)) = some y3 := hf 3 _ rfl
  rw [show Tryz.prog.cellsOf 22 = 1 by kernel_rfl] at g3
  clear hf
  simp only [QnC, Qnu, Qnw, QnD] at g0 g1 g2 g3
  obtain ⟨f0, e0, _, w0⟩ := DataW.trod_int Tryz.underlying3 g0
  obtain ⟨f1, e1, _, w1⟩ := DataW.trod_int Tryz.underlying3 g1
  obtain ⟨f2, e2, _, w2⟩ := DataW.trod_string Tryz.underlying9 g2
  obtain ⟨f3, u3, q3, e3, hu3, hr3⟩ := QcC (X := T) (val := T.av) (Good := T.ok) (s := 4) Tryz.underlying22 (by kernel_rfl) (by omega) (fun t => by rw [T.QmN]; rfl) (fun m cs y hm hy => ih m (by omega) cs y hy) g3
  have n3 := QcW hr3
  rw [← QbM] at hr3
  cases e0
  cases e1
  cases e2
  cases e3
  refine ⟨.mk f0 f1 f2 f3, by simp only [T.ok]; exact ⟨QgZ w0, QgZ w1, QjZ w2, QhY _ q3⟩, rfl, fun j x v hx hv => ?_⟩
  rw [T.QmN] at hx
  simp only [T.kind, T.int, T.name, T.args] at hx
  match j, hx, hv with
  | 0, hx, hv => simp at hx hv; subst hx; subst hv; exact ⟨.v _, rfl⟩
  | 1, hx, hv => simp at hx hv; subst hx; subst hv; exact ⟨.v _, rfl⟩
  | 2, hx, hv => simp at hx hv; subst hx; subst hv; exact ⟨.v _, rfl⟩
  | 3, hx, hv => simp at hx hv; subst hx; subst hv; exact ⟨hr3, hu3⟩
  | j + 4, hx, hv => simp at hx
theorem QkH {H : Type} (enc : TypeId × Value → H) (W : World) (fuel : Nat) (cs : List Value) (y : DataW H × List MemPlace) (h : DataW.trod enc Tryz.prog W 0 (fun _ => true) true fuel 34 cs = some y) : ∃ p : G, G.aok p ∧ Reads W (G.atom p) cs := by
  obtain ⟨xs, fu, hfu, _, hl, hlen, hf⟩ := DataW.trod_struct Tryz.underlying34 h
  have hC : Tryz.prog.cellsOf 34 = 2 := by kernel_rfl
  rw [hC] at hl
  have hlenN : xs.length = 2 := hlen
  obtain ⟨y0, l1, rfl, k1⟩ := Xi hlenN
  obtain ⟨y1, l2, rfl, k2⟩ := Xi k1
  obtain rfl := len_nil k2
  obtain ⟨c0, l1, rfl, k1⟩ := Xi hl
  obtain ⟨c1, l2, rfl, k2⟩ := Xi k1
  obtain rfl := len_nil k2
  have g0 : DataW.trod enc Tryz.prog W 0 (fun _ => true) true fu 9 (([c0, c1].drop 0).take (Tryz.prog.cellsOf 9)) = some y0 := hf 0 _ rfl
  rw [show Tryz.prog.cellsOf 9 = 1 by kernel_rfl] at g0
  have g1 : DataW.trod enc Tryz.prog W 0 (fun _ => true) true fu 22 (([c0, c1].drop 1).take (Tryz.prog.cellsOf 22)) = some y1 := hf 1 _ rfl
  rw [show Tryz.prog.cellsOf 22 = 1 by kernel_rfl] at g1
  clear hf
  simp only [QnC, Qnu, Qnw, QnD] at g0 g1
  obtain ⟨f0, e0, _, w0⟩ := DataW.trod_string Tryz.underlying9 g0
  obtain ⟨f1, u1, q1, e1, hu1, hr1⟩ := QcC (X := T) (val := T.av) (Good := T.ok) (s := 4) Tryz.underlying22 (by kernel_rfl) (by omega) (fun t => by rw [T.QmN]; rfl) (fun m cs y _ hy => ZU enc W m cs y hy) g1
  have n1 := QcW hr1
  rw [← QbM] at hr1
  cases e0
  cases e1
  refine ⟨⟨0, f0, f1⟩, ⟨rfl, by show i64 0; unfold i64; omega, QjZ w0, QhY _ q1⟩, rfl, fun j x v hx hv => ?_⟩
  rw [Xm] at hx
  match j, hx, hv with
  | 0, hx, hv => simp at hx hv; subst hx; subst hv; exact ⟨.v _, rfl⟩
  | 1, hx, hv => simp at hx hv; subst hx; subst hv; exact ⟨hr1, hu1⟩
  | j + 2, hx, hv => simp at hx
theorem Qki {H : Type} (enc : TypeId × Value → H) (W : World) (fuel : Nat) (cs : List Value) (y : DataW H × List MemPlace) (h : DataW.trod enc Tryz.prog W 0 (fun _ => true) true fuel 30 cs = some y) : ∃ p : G, G.ok p ∧ Reads W (G.goal p) cs := by
  obtain ⟨xs, fu, hfu, _, hl, hlen, hf⟩ := DataW.trod_struct Tryz.underlying30 h
  have hC : Tryz.prog.cellsOf 30 = 3 := by kernel_rfl
  rw [hC] at hl
  have hlenN : xs.length = 3 := hlen
  obtain ⟨y0, l1, rfl, k1⟩ := Xi hlenN
  obtain ⟨y1, l2, rfl, k2⟩ := Xi k1
  obtain ⟨y2, l3, rfl, k3⟩ := Xi k2
  obtain rfl := len_nil k3
  obtain ⟨c0, l1, rfl, k1⟩ := Xi hl
  obtain ⟨c1, l2, rfl, k2⟩ := Xi k1
  obtain ⟨c2, l3, rfl, k3⟩ := Xi k2
  obtain rfl := len_nil k3
  have g0 : DataW.trod enc Tryz.prog W 0 (fun _ => true) true fu 3 (([c0, c1, c2].drop 0).take (Tryz.prog.cellsOf 3)) = some y0 := hf 0 _ rfl
  rw [show Tryz.prog.cellsOf 3 = 1 by kernel_rfl] at g0
  have g1 : DataW.trod enc Tryz.prog W 0 (fun _ => true) true fu 9 (([c0, c1, c2].drop 1).take (Tryz.prog.cellsOf 9)) = some y1 := hf 1 _ rfl
  rw [show Tryz.prog.cellsOf 9 = 1 by kernel_rfl] at g1
  have g2 : DataW.trod enc Tryz.prog W 0 (fun _ => true) true fu 22 (([c0, c1, c2].drop 2).take (Tryz.prog.cellsOf 22)) = some y2 := hf 2 _ rfl
  rw [show Tryz.prog.cellsOf 22 = 1 by kernel_rfl] at g2
  clear hf
  simp only [QnC, Qnu, Qnw, QnD] at g0 g1 g2
  obtain ⟨f0, e0, _, w0⟩ := DataW.trod_int Tryz.underlying3 g0
  obtain ⟨f1, e1, _, w1⟩ := DataW.trod_string Tryz.underlying9 g1
  obtain ⟨f2, u2, q2, e2, hu2, hr2⟩ := QcC (X := T) (val := T.av) (Good := T.ok) (s := 4) Tryz.underlying22 (by kernel_rfl) (by omega) (fun t => by rw [T.QmN]; rfl) (fun m cs y _ hy => ZU enc W m cs y hy) g2
  have n2 := QcW hr2
  rw [← QbM] at hr2
  cases e0
  cases e1
  cases e2
  refine ⟨⟨f0, f1, f2⟩, ⟨QgZ w0, QjZ w1, QhY _ q2⟩, rfl, fun j x v hx hv => ?_⟩
  rw [Q7] at hx
  match j, hx, hv with
  | 0, hx, hv => simp at hx hv; subst hx; subst hv; exact ⟨.v _, rfl⟩
  | 1, hx, hv => simp at hx hv; subst hx; subst hv; exact ⟨.v _, rfl⟩
  | 2, hx, hv => simp at hx hv; subst hx; subst hv; exact ⟨hr2, hu2⟩
  | j + 3, hx, hv => simp at hx
end Go.Proofs.YtehjodmnajgdgaaGreatDoor.Ab
