/-
  An abstract program logic, contracts of functions, and laws of terms and rules (part 8).
-/
import Derived.Test.YtehjodmnajgdgaaGreatDoorAbSix
import Derived.Test.YtehjodmnajgdgaaGreatDoorAbFive
set_option linter.unusedVariables false
set_option linter.unusedSimpArgs false
set_option maxHeartbeats 4000000
set_option maxRecDepth 4000
namespace Go.Proofs.YtehjodmnajgdgaaGreatDoor.Ab
open Go.Proofs
structure Ch where
  first : Int
  second : Int
  x : T
  y : T
  z : T
def Ch.av (c : Ch) : AV := .agg [.i c.first, .i c.second, .i c.x.kind, .i c.x.int, .v (.string c.x.name), .sl 4 (avs c.x.args) none, .i c.y.kind, .i c.y.int, .v (.string c.y.name), .sl 4 (avs c.y.args) none, .i c.z.kind, .i c.z.int, .v (.string c.z.name), .sl 4 (avs c.z.args) none]
theorem Ch.cells (c : Ch) : c.av.cells = [.i c.first, .i c.second, .i c.x.kind, .i c.x.int, .v (.string c.x.name), .sl 4 (avs c.x.args) none, .i c.y.kind, .i c.y.int, .v (.string c.y.name), .sl 4 (avs c.y.args) none, .i c.z.kind, .i c.z.int, .v (.string c.z.name), .sl 4 (avs c.z.args) none] := rfl
theorem Ch.isAgg (c : Ch) : c.av.isAgg = true := rfl
def Ch.ok (c : Ch) : Prop := i64 c.first ∧ i64 c.second ∧ c.x.ok ∧ c.y.ok ∧ c.z.ok
theorem T.fold (t : T) : AV.agg [.i t.kind, .i t.int, .v (.string t.name), .sl 4 (avs t.args) none] = t.av := (T.Qnd t).symm
def opC (n : Nat) : UInt8 := [43, 45, 42, 47, 37].getD n 0
def signs : List AV := [.v (.string { data := #[43] }), .v (.string { data := #[45] }), .v (.string { data := #[42] }), .v (.string { data := #[47] }), .v (.string { data := #[37] })]
theorem Qgj {n : Nat} (h : n ≤ 4) : signs[n]? = some (.v (.string (mkB [opC n]))) := by
  rcases (by omega : n = 0 ∨ n = 1 ∨ n = 2 ∨ n = 3 ∨ n = 4) with rfl | rfl | rfl | rfl | rfl <;> rfl
theorem QgX {n : Nat} (h : n ≤ 4) : ofB (mkB [opC n]) = if n < 2 then 1 else 2 := by
  rcases (by omega : n = 0 ∨ n = 1 ∨ n = 2 ∨ n = 3 ∨ n = 4) with rfl | rfl | rfl | rfl | rfl <;> kernel_rfl
theorem QlQ {n : Nat} (h : n ≤ 4) : ofB (mkB [opC n]) = 1 ∨ ofB (mkB [opC n]) = 2 := by
  rw [QgX h]; split
  · exact .inl rfl
  · exact .inr rfl
theorem Qk5 (c : Ch) (ho : c.ok) (h : AH) (hT : Tabs h) (z1 : c.first < 0) : Xd Tryz.prog 8 [c.av] h fun o h' => o = .ret (.b true) ∧ h' = h := by
  have ce := fun L => XJ (h ++ L) (hT.app L)
  refine Qe Tryz.func8 rfl Tryz.call8 Tryz.ntmps8 (congrArg Array.toList Tryz.results8) (by simp) ?_
  iterate 5 (try (first | (((with_reducible refine Qa fun K E hK hE => ?_)); simp -implicitDefEqProofs only [Qd, Qb, Qg, OpW, aop, undef, AS.ev, Qc, Qr, QG, Qi, Qw, Qns, AV.QmP, QU, QnF, QnG, Qv, Qt, QC, QnH, ↓reduceIte, Qny, Qnz, Nat.reduceAdd, Nat.reduceLT, Nat.reduceLeDiff, Nat.reduceEqDiff, Nat.reduceMul, Qnx, QnT, QP, QnA, QnE, Qnt, rng5, Q2, Nat.reducePow, zi9, ei52, Ch.cells]) | (with_reducible refine Qh fun K hK => ?_) | ((with_reducible refine hK _ ?_); clear hK)))
  (with_reducible refine Qa fun K E hK hE => ?_)
  (try simp only [QnW]); refine Qz 8 (fun K1 hK1 => ?_); simp -implicitDefEqProofs only [Qd, Qb, Qg, OpW, aop, undef, AS.ev, Qc, Qn, Qr, Qi, QnI, ↓reduceIte, Nat.reduceLT, Nat.reduceEqDiff, QnK, Qp, QK, QL, aBin, QT, Qnl, Qnm, Qnn, Qnq, Qno, Qnw, QnD, Q0, QnR, beq_false, ti3, Zw, Ch.cells, z1]; refine hK1 _ ?_; clear hK1
  (try simp only [Qnu, QnC]); refine Qz 5 (fun K1 hK1 => ?_); simp -implicitDefEqProofs only [Qd, Qb, Qg, OpW, aop, undef, AS.ev, Qc, Qr, Qi, QnI, ↓reduceIte, Nat.reduceLT, Nat.reduceEqDiff, Qnl, Qnm, Qnq, Qno, Qnw, QnD, beq_false]; refine hK1 _ ?_; clear hK1
  (try simp only [Qnu, QnC]); refine Qz 5 (fun K1 hK1 => ?_); simp -implicitDefEqProofs only [Qd, Qb, Qg, OpW, aop, undef, AS.ev, Qc, Qr, Qi, QnI, ↓reduceIte, Nat.reduceLT, Nat.reduceEqDiff, Qnl, Qnm, Qnq, Qno, Qnw, QnD, beq_false]; refine hK1 _ ?_; clear hK1
  (try simp only [Qnu, QnC]); refine Qz 10 (fun K1 hK1 => ?_); simp -implicitDefEqProofs only [Qd, Qb, Qg, OpW, aop, undef, AS.ev, Qc, Qr, Qi, QnI, ↓reduceIte, Nat.reduceLT, Nat.reduceEqDiff, Qnl, Qnm, Qnq, Qno, Qnw, QnD, beq_false]; refine hK1 _ ?_; clear hK1
  (try simp only [Qnu, QnC]); refine Qz 6 (fun K1 hK1 => ?_); simp -implicitDefEqProofs only [Qd, Qb, Qg, OpW, aop, undef, AS.ev, Qc, Qr, Qi, QnI, ↓reduceIte, Nat.reduceLT, Nat.reduceEqDiff, Qnl, Qnm, Qnq, Qno, Qnw, QnD, beq_false]; refine hK1 _ ?_; clear hK1
  (try simp only [Qnu, QnC]); refine Qz 6 (fun K1 hK1 => ?_); simp -implicitDefEqProofs only [Qd, Qb, Qg, OpW, aop, undef, AS.ev, Qc, Qr, Qi, QnI, ↓reduceIte, Nat.reduceLT, Nat.reduceEqDiff, Qnl, Qnm, Qnq, Qno, Qnw, QnD, beq_false]; refine hK1 _ ?_; clear hK1
  (try simp only [Qnu, QnC])
  simp -implicitDefEqProofs only [Qd, Qb, Qg, OpW, aop, undef, AS.ev, Qc, Qr, Qi, QnI, ↓reduceIte, Nat.reduceLT, Nat.reduceEqDiff, Qnl, Qnm, Qnq, Qno, beq_false]
  repeat (first | ((first | (with_reducible (first | refine Qa fun K E hK hE => ?_ | refine FunW.ret (FunW.call (ce _)) ?_))); simp -implicitDefEqProofs only [Qd, Qb, Qg, OpW, QO, aop, AS.ev, Qc, Qi, ↓reduceIte, Nat.reduceLT, QnE]) | (with_reducible (first | refine Ql ?_ | refine Qy ?_)) | ((with_reducible refine hK _ ?_); clear hK) | (refine Qk rfl ?_; simp only [↓reduceIte]))
  simp only [QI, Qm, Qu, upd, ↓reduceIte, Qnr, Qnv]; first | refine Qf (htake _ _) (.keep (.v _)) ⟨rfl, rfl⟩ | refine Qf List.take_length (.keep (.v _)) ⟨rfl, rfl⟩
theorem QkQ (c : Ch) (ho : c.ok) (h : AH) (hT : Tabs h) (z1 : ¬ c.first < 0) (z2 : c.first > 4) : Xd Tryz.prog 8 [c.av] h fun o h' => o = .ret (.b true) ∧ h' = h := by
  have ce := fun L => XJ (h ++ L) (hT.app L)
  refine Qe Tryz.func8 rfl Tryz.call8 Tryz.ntmps8 (congrArg Array.toList Tryz.results8) (by simp) ?_
  iterate 5 (try (first | (((with_reducible refine Qa fun K E hK hE => ?_)); simp -implicitDefEqProofs only [Qd, Qb, Qg, OpW, aop, undef, AS.ev, Qc, Qr, QG, Qi, Qw, Qns, AV.QmP, QU, QnF, QnG, Qv, Qt, QC, QnH, ↓reduceIte, Qny, Qnz, Nat.reduceAdd, Nat.reduceLT, Nat.reduceLeDiff, Nat.reduceEqDiff, Nat.reduceMul, Qnx, QnT, QP, QnA, QnE, Qnt, rng5, Q2, Nat.reducePow, zi9, ei52, Ch.cells]) | (with_reducible refine Qh fun K hK => ?_) | ((with_reducible refine hK _ ?_); clear hK)))
  (with_reducible refine Qa fun K E hK hE => ?_)
  (try simp only [QnW]); refine Qz 8 (fun K1 hK1 => ?_); simp -implicitDefEqProofs only [Qd, Qb, Qg, OpW, aop, AS.ev, Qc, Qn, Qi, ↓reduceIte, Nat.reduceLT, Nat.reduceEqDiff, QnK, Qp, QK, QL, aBin, QT, Qnl, Qnm, Qnn, Qnq, Qno, Qnw, QnD, Q0, Xg, QnR, QnS, Qnt, Qnp, ti3, Zw, Ch.cells, z1, z2]; refine hK1 _ ?_; clear hK1
  (try simp only [Qnu, QnC]); refine Qz 5 (fun K1 hK1 => ?_); simp -implicitDefEqProofs only [Qd, Qb, Qg, OpW, aop, undef, AS.ev, Qc, Qr, Qi, QnI, ↓reduceIte, Nat.reduceLT, Nat.reduceEqDiff, Qnl, Qnm, Qnq, Qno, Qnw, QnD, beq_false]; refine hK1 _ ?_; clear hK1
  (try simp only [Qnu, QnC]); refine Qz 5 (fun K1 hK1 => ?_); simp -implicitDefEqProofs only [Qd, Qb, Qg, OpW, aop, undef, AS.ev, Qc, Qr, Qi, QnI, ↓reduceIte, Nat.reduceLT, Nat.reduceEqDiff, Qnl, Qnm, Qnq, Qno, Qnw, QnD, beq_false]; refine hK1 _ ?_; clear hK1
  (try simp only [Qnu, QnC]); refine Qz 10 (fun K1 hK1 => ?_); simp -implicitDefEqProofs only [Qd, Qb, Qg, OpW, aop, undef, AS.ev, Qc, Qr, Qi, QnI, ↓reduceIte, Nat.reduceLT, Nat.reduceEqDiff, Qnl, Qnm, Qnq, Qno, Qnw, QnD, beq_false]; refine hK1 _ ?_; clear hK1
  (try simp only [Qnu, QnC]); refine Qz 6 (fun K1 hK1 => ?_); simp -implicitDefEqProofs only [Qd, Qb, Qg, OpW, aop, undef, AS.ev, Qc, Qr, Qi, QnI, ↓reduceIte, Nat.reduceLT, Nat.reduceEqDiff, Qnl, Qnm, Qnq, Qno, Qnw, QnD, beq_false]; refine hK1 _ ?_; clear hK1
  (try simp only [Qnu, QnC]); refine Qz 6 (fun K1 hK1 => ?_); simp -implicitDefEqProofs only [Qd, Qb, Qg, OpW, aop, undef, AS.ev, Qc, Qr, Qi, QnI, ↓reduceIte, Nat.reduceLT, Nat.reduceEqDiff, Qnl, Qnm, Qnq, Qno, Qnw, QnD, beq_false]; refine hK1 _ ?_; clear hK1
  (try simp only [Qnu, QnC])
  simp -implicitDefEqProofs only [Qd, Qb, Qg, OpW, aop, undef, AS.ev, Qc, Qr, Qi, QnI, ↓reduceIte, Nat.reduceLT, Nat.reduceEqDiff, Qnl, Qnm, Qnq, Qno, beq_false]
  repeat (first | ((first | (with_reducible (first | refine Qa fun K E hK hE => ?_ | refine FunW.ret (FunW.call (ce _)) ?_))); simp -implicitDefEqProofs only [Qd, Qb, Qg, OpW, QO, aop, AS.ev, Qc, Qi, ↓reduceIte, Nat.reduceLT, QnE]) | (with_reducible (first | refine Ql ?_ | refine Qy ?_)) | ((with_reducible refine hK _ ?_); clear hK) | (refine Qk rfl ?_; simp only [↓reduceIte]))
  simp only [QI, Qm, Qu, upd, ↓reduceIte, Qnr, Qnv]; first | refine Qf (htake _ _) (.keep (.v _)) ⟨rfl, rfl⟩ | refine Qf List.take_length (.keep (.v _)) ⟨rfl, rfl⟩
theorem Qlr (c : Ch) (ho : c.ok) (h : AH) (hT : Tabs h) (z1 : ¬ c.first < 0) (z2 : ¬ c.first > 4) (z3 : c.second < 0) : Xd Tryz.prog 8 [c.av] h fun o h' => o = .ret (.b true) ∧ h' = h := by
  have ce := fun L => XJ (h ++ L) (hT.app L)
  refine Qe Tryz.func8 rfl Tryz.call8 Tryz.ntmps8 (congrArg Array.toList Tryz.results8) (by simp) ?_
  iterate 5 (try (first | (((with_reducible refine Qa fun K E hK hE => ?_)); simp -implicitDefEqProofs only [Qd, Qb, Qg, OpW, aop, undef, AS.ev, Qc, Qr, QG, Qi, Qw, Qns, AV.QmP, QU, QnF, QnG, Qv, Qt, QC, QnH, ↓reduceIte, Qny, Qnz, Nat.reduceAdd, Nat.reduceLT, Nat.reduceLeDiff, Nat.reduceEqDiff, Nat.reduceMul, Qnx, QnT, QP, QnA, QnE, Qnt, rng5, Q2, Nat.reducePow, zi9, ei52, Ch.cells]) | (with_reducible refine Qh fun K hK => ?_) | ((with_reducible refine hK _ ?_); clear hK)))
  (with_reducible refine Qa fun K E hK hE => ?_)
  (try simp only [QnW]); refine Qz 8 (fun K1 hK1 => ?_); simp -implicitDefEqProofs only [Qd, Qb, Qg, OpW, aop, AS.ev, Qc, Qn, Qi, ↓reduceIte, Nat.reduceLT, Nat.reduceEqDiff, QnK, Qp, QK, QL, aBin, QT, Qnl, Qnm, Qnn, Qnq, Qno, Qnw, QnD, Q0, Xg, QnS, Qnt, Qnp, ti3, Zw, Ch.cells, z1, z2]; refine hK1 _ ?_; clear hK1
  (try simp only [Qnu, QnC]); refine Qz 5 (fun K1 hK1 => ?_); simp -implicitDefEqProofs only [Qd, Qb, Qg, OpW, aop, AS.ev, Qc, Qn, Qi, ↓reduceIte, Nat.reduceLT, Nat.reduceEqDiff, Qnx, Qp, QK, QL, aBin, QT, Qnl, Qnm, Qnn, Qnq, Qno, Qnw, QnD, Q0, QnR, Qnt, Qnp, ti3, Y1, Ch.cells, z3]; refine hK1 _ ?_; clear hK1
  (try simp only [Qnu, QnC]); refine Qz 5 (fun K1 hK1 => ?_); simp -implicitDefEqProofs only [Qd, Qb, Qg, OpW, aop, undef, AS.ev, Qc, Qr, Qi, QnI, ↓reduceIte, Nat.reduceLT, Nat.reduceEqDiff, Qnl, Qnm, Qnq, Qno, Qnw, QnD, beq_false]; refine hK1 _ ?_; clear hK1
  (try simp only [Qnu, QnC]); refine Qz 10 (fun K1 hK1 => ?_); simp -implicitDefEqProofs only [Qd, Qb, Qg, OpW, aop, undef, AS.ev, Qc, Qr, Qi, QnI, ↓reduceIte, Nat.reduceLT, Nat.reduceEqDiff, Qnl, Qnm, Qnq, Qno, Qnw, QnD, beq_false]; refine hK1 _ ?_; clear hK1
  (try simp only [Qnu, QnC]); refine Qz 6 (fun K1 hK1 => ?_); simp -implicitDefEqProofs only [Qd, Qb, Qg, OpW, aop, undef, AS.ev, Qc, Qr, Qi, QnI, ↓reduceIte, Nat.reduceLT, Nat.reduceEqDiff, Qnl, Qnm, Qnq, Qno, Qnw, QnD, beq_false]; refine hK1 _ ?_; clear hK1
  (try simp only [Qnu, QnC]); refine Qz 6 (fun K1 hK1 => ?_); simp -implicitDefEqProofs only [Qd, Qb, Qg, OpW, aop, undef, AS.ev, Qc, Qr, Qi, QnI, ↓reduceIte, Nat.reduceLT, Nat.reduceEqDiff, Qnl, Qnm, Qnq, Qno, Qnw, QnD, beq_false]; refine hK1 _ ?_; clear hK1
  (try simp only [Qnu, QnC])
  simp -implicitDefEqProofs only [Qd, Qb, Qg, OpW, aop, undef, AS.ev, Qc, Qr, Qi, QnI, ↓reduceIte, Nat.reduceLT, Nat.reduceEqDiff, Qnl, Qnm, Qnq, Qno, beq_false]
  repeat (first | ((first | (with_reducible (first | refine Qa fun K E hK hE => ?_ | refine FunW.ret (FunW.call (ce _)) ?_))); simp -implicitDefEqProofs only [Qd, Qb, Qg, OpW, QO, aop, AS.ev, Qc, Qi, ↓reduceIte, Nat.reduceLT, QnE]) | (with_reducible (first | refine Ql ?_ | refine Qy ?_)) | ((with_reducible refine hK _ ?_); clear hK) | (refine Qk rfl ?_; simp only [↓reduceIte]))
  simp only [QI, Qm, Qu, upd, ↓reduceIte, Qnr, Qnv]; first | refine Qf (htake _ _) (.keep (.v _)) ⟨rfl, rfl⟩ | refine Qf List.take_length (.keep (.v _)) ⟨rfl, rfl⟩
theorem QkX (c : Ch) (ho : c.ok) (h : AH) (hT : Tabs h) (z1 : ¬ c.first < 0) (z2 : ¬ c.first > 4) (z3 : ¬ c.second < 0) (z4 : c.second > 4) : Xd Tryz.prog 8 [c.av] h fun o h' => o = .ret (.b true) ∧ h' = h := by
  have ce := fun L => XJ (h ++ L) (hT.app L)
  refine Qe Tryz.func8 rfl Tryz.call8 Tryz.ntmps8 (congrArg Array.toList Tryz.results8) (by simp) ?_
  iterate 5 (try (first | (((with_reducible refine Qa fun K E hK hE => ?_)); simp -implicitDefEqProofs only [Qd, Qb, Qg, OpW, aop, undef, AS.ev, Qc, Qr, QG, Qi, Qw, Qns, AV.QmP, QU, QnF, QnG, Qv, Qt, QC, QnH, ↓reduceIte, Qny, Qnz, Nat.reduceAdd, Nat.reduceLT, Nat.reduceLeDiff, Nat.reduceEqDiff, Nat.reduceMul, Qnx, QnT, QP, QnA, QnE, Qnt, rng5, Q2, Nat.reducePow, zi9, ei52, Ch.cells]) | (with_reducible refine Qh fun K hK => ?_) | ((with_reducible refine hK _ ?_); clear hK)))
  (with_reducible refine Qa fun K E hK hE => ?_)
  (try simp only [QnW]); refine Qz 8 (fun K1 hK1 => ?_); simp -implicitDefEqProofs only [Qd, Qb, Qg, OpW, aop, AS.ev, Qc, Qn, Qi, ↓reduceIte, Nat.reduceLT, Nat.reduceEqDiff, QnK, Qp, QK, QL, aBin, QT, Qnl, Qnm, Qnn, Qnq, Qno, Qnw, QnD, Q0, Xg, QnS, Qnt, Qnp, ti3, Zw, Ch.cells, z1, z2]; refine hK1 _ ?_; clear hK1
  (try simp only [Qnu, QnC]); refine Qz 5 (fun K1 hK1 => ?_); simp -implicitDefEqProofs only [Qd, Qb, Qg, OpW, aop, AS.ev, Qc, Qn, Qi, ↓reduceIte, Nat.reduceLT, Nat.reduceEqDiff, Qnx, Qp, QK, QL, aBin, QT, Qnl, Qnm, Qnn, Qnq, Qno, Qnw, QnD, Q0, QnS, Qnt, Qnp, ti3, Y1, Ch.cells, z3]; refine hK1 _ ?_; clear hK1
  (try simp only [Qnu, QnC]); refine Qz 5 (fun K1 hK1 => ?_); simp -implicitDefEqProofs only [Qd, Qb, Qg, OpW, aop, AS.ev, Qc, Qn, Qi, ↓reduceIte, Nat.reduceLT, Nat.reduceEqDiff, Qnx, Qp, QK, QL, aBin, QT, Qnl, Qnm, Qnn, Qnq, Qno, Qnw, QnD, Xg, QnR, Qnt, Qnp, ti3, Y1, Ch.cells, z4]; refine hK1 _ ?_; clear hK1
  (try simp only [Qnu, QnC]); refine Qz 10 (fun K1 hK1 => ?_); simp -implicitDefEqProofs only [Qd, Qb, Qg, OpW, aop, undef, AS.ev, Qc, Qr, Qi, QnI, ↓reduceIte, Nat.reduceLT, Nat.reduceEqDiff, Qnl, Qnm, Qnq, Qno, Qnw, QnD, beq_false]; refine hK1 _ ?_; clear hK1
  (try simp only [Qnu, QnC]); refine Qz 6 (fun K1 hK1 => ?_); simp -implicitDefEqProofs only [Qd, Qb, Qg, OpW, aop, undef, AS.ev, Qc, Qr, Qi, QnI, ↓reduceIte, Nat.reduceLT, Nat.reduceEqDiff, Qnl, Qnm, Qnq, Qno, Qnw, QnD, beq_false]; refine hK1 _ ?_; clear hK1
  (try simp only [Qnu, QnC]); refine Qz 6 (fun K1 hK1 => ?_); simp -implicitDefEqProofs only [Qd, Qb, Qg, OpW, aop, undef, AS.ev, Qc, Qr, Qi, QnI, ↓reduceIte, Nat.reduceLT, Nat.reduceEqDiff, Qnl, Qnm, Qnq, Qno, Qnw, QnD, beq_false]; refine hK1 _ ?_; clear hK1
  (try simp only [Qnu, QnC])
  simp -implicitDefEqProofs only [Qd, Qb, Qg, OpW, aop, undef, AS.ev, Qc, Qr, Qi, QnI, ↓reduceIte, Nat.reduceLT, Nat.reduceEqDiff, Qnl, Qnm, Qnq, Qno, beq_false]
  repeat (first | ((first | (with_reducible (first | refine Qa fun K E hK hE => ?_ | refine FunW.ret (FunW.call (ce _)) ?_))); simp -implicitDefEqProofs only [Qd, Qb, Qg, OpW, QO, aop, AS.ev, Qc, Qi, ↓reduceIte, Nat.reduceLT, QnE]) | (with_reducible (first | refine Ql ?_ | refine Qy ?_)) | ((with_reducible refine hK _ ?_); clear hK) | (refine Qk rfl ?_; simp only [↓reduceIte]))
  simp only [QI, Qm, Qu, upd, ↓reduceIte, Qnr, Qnv]; first | refine Qf (htake _ _) (.keep (.v _)) ⟨rfl, rfl⟩ | refine Qf List.take_length (.keep (.v _)) ⟨rfl, rfl⟩
theorem QlF (c : Ch) (ho : c.ok) (h : AH) (hT : Tabs h) (z1 : ¬ c.first < 0) (z2 : ¬ c.first > 4) (z3 : ¬ c.second < 0) (z4 : ¬ c.second > 4) (hw : weigh 64 [c.x, c.y, c.z] 150 < 0) : Xd Tryz.prog 8 [c.av] h fun o h' => o = .ret (.b true) ∧ h' = h := by
  have ce := fun L => XJ (h ++ L) (hT.app L)
  have cg : Pure Tryz.prog 9 [.sl 4 [c.x.av, c.y.av, c.z.av] none, .i 150] _ := Ze [c.x, c.y, c.z] 150 ⟨ho.2.2.1, ho.2.2.2.1, ho.2.2.2.2, trivial⟩ (by decide) (by decide)
  rw [decide_eq_true hw] at cg
  refine Qe Tryz.func8 rfl Tryz.call8 Tryz.ntmps8 (congrArg Array.toList Tryz.results8) (by simp) ?_
  iterate 5 (try (first | (((with_reducible refine Qa fun K E hK hE => ?_)); simp -implicitDefEqProofs only [Qd, Qb, Qg, OpW, aop, undef, AS.ev, Qc, Qr, QG, Qi, Qw, Qns, AV.QmP, QU, QnF, QnG, Qv, Qt, QC, QnH, ↓reduceIte, Qny, Qnz, Nat.reduceAdd, Nat.reduceLT, Nat.reduceLeDiff, Nat.reduceEqDiff, Nat.reduceMul, Qnx, QnT, QP, QnA, QnE, Qnt, rng5, Q2, Nat.reducePow, zi9, ei52, Ch.cells]) | (with_reducible refine Qh fun K hK => ?_) | ((with_reducible refine hK _ ?_); clear hK)))
  (with_reducible refine Qa fun K E hK hE => ?_)
  (try simp only [QnW]); refine Qz 8 (fun K1 hK1 => ?_); simp -implicitDefEqProofs only [Qd, Qb, Qg, OpW, aop, AS.ev, Qc, Qn, Qi, ↓reduceIte, Nat.reduceLT, Nat.reduceEqDiff, QnK, Qp, QK, QL, aBin, QT, Qnl, Qnm, Qnn, Qnq, Qno, Qnw, QnD, Q0, Xg, QnS, Qnt, Qnp, ti3, Zw, Ch.cells, z1, z2]; refine hK1 _ ?_; clear hK1
  (try simp only [Qnu, QnC]); refine Qz 5 (fun K1 hK1 => ?_); simp -implicitDefEqProofs only [Qd, Qb, Qg, OpW, aop, AS.ev, Qc, Qn, Qi, ↓reduceIte, Nat.reduceLT, Nat.reduceEqDiff, Qnx, Qp, QK, QL, aBin, QT, Qnl, Qnm, Qnn, Qnq, Qno, Qnw, QnD, Q0, QnS, Qnt, Qnp, ti3, Y1, Ch.cells, z3]; refine hK1 _ ?_; clear hK1
  (try simp only [Qnu, QnC]); refine Qz 5 (fun K1 hK1 => ?_); simp -implicitDefEqProofs only [Qd, Qb, Qg, OpW, aop, AS.ev, Qc, Qn, Qi, ↓reduceIte, Nat.reduceLT, Nat.reduceEqDiff, Qnx, Qp, QK, QL, aBin, QT, Qnl, Qnm, Qnn, Qnq, Qno, Qnw, QnD, Xg, QnS, Qnt, Qnp, ti3, Y1, Ch.cells, z4]; refine hK1 _ ?_; clear hK1
  (try simp only [Qnu, QnC]); refine Qz 10 (fun K1 hK1 => ?_); simp -implicitDefEqProofs only [Qb, Qg, OpW, aop, undef, AS.ev, Qc, Qn, Qi, Qw, AV.QmP, QB, QnF, QnG, Qv, Qt, QM, QC, QnH, ↓reduceIte, Qny, Qnz, Nat.reduceAdd, Nat.reduceLT, Nat.reduceLeDiff, Nat.reduceEqDiff, Nat.reduceMul, Qnx, QnU, QnT, Qp, QK, QL, QP, QT, Qnl, Qnm, Qnn, Qnq, Qno, QnA, QnE, Qnw, QnD, Qnu, QnC, Qnt, rng3, Q2, Nat.reducePow, T.QmN, ei22, ti24, zi24, Zy, ZK, ZY, Ch.cells, Ch.isAgg, T.fold, T.QmN]; (repeat ((((with_reducible refine Qo cg ?_)); simp -implicitDefEqProofs only [Qd, Qb, Qg, OpW, QO, aop, AS.ev, Qc, Qi, ↓reduceIte, Nat.reduceLT, Nat.reduceEqDiff, Qnp]))); refine hK1 _ ?_; clear hK1
  (try simp only [Qnu, QnC]); refine Qz 6 (fun K1 hK1 => ?_); simp -implicitDefEqProofs only [Qd, Qb, Qg, OpW, aop, undef, AS.ev, Qc, Qr, Qi, QnI, ↓reduceIte, Nat.reduceLT, Nat.reduceEqDiff, Qnl, Qnm, Qnq, Qno, Qnw, QnD, beq_false]; (repeat ((((with_reducible refine Qa fun K E hK hE => ?_)); simp -implicitDefEqProofs only [Q4, Q1, Xb, Qd, Qb, Qg, OpW, QO, aop, undef, Qb2, Qn1, Qn2, Qic, QdW, QfD, AS.ev, Qc, QV, Qn, Qr, QG, YG, QfV, Zb, QaE, Xz, Qf6, Qi, Qw, Qns, QnL, AV.QmP, QB, QU, Yf, Qcs, Xu, Qct, QdQ, QdU, Qcg, QJ, Xp, QaM, Qcp, Qa2, Qcu, QdS, QdG, Qb9, QnF, QnG, Qv, Qby, Qt, QM, Qci, YX, ZC, Zg, QC, Qcf, XC, Qch, QdK, QdH, Qb1, QnH, Qn4, Qn5, QnI, QnJ, ↓reduceIte, Qny, Qnz, Nat.reduceAdd, Nat.reduceLT, Nat.reduceLeDiff, Nat.reduceEqDiff, Nat.reduceSub, Nat.reduceMul, Qnx, QnK, QnU, QnV, QnT, Yi, Z3, Qp, QK, QL, Q5, QW, QZ, aBin, XB, Yj, QP, YK, QT, hget, YQ, hset, hlen, happ, Qnl, Qnm, Qob, QnP, QnQ, Qnn, Qn0, Qnq, QnZ, Qnr, QnW, Qno, QnA, QnE, QnN, QnM, QnO, Qnw, QnD, Qnu, QnC, QS, Q0, Xg, XD, X8, Xa, QY, QbS, QcY, goInt, QnR, QnS, Qnt, Qn6, QnY, Int.toNat_zero, Int.toNat_one, QnX, Qn9, Qoa, Qn7, Qnp, Qn3, beq_true, beq_false, rng0, rng1, rng2, rng3, rng4, rng5, rng6, rng7, rng8, Q2, Nat.reducePow, Nat.zero_le, Nat.zero_mul, T.QmN, T.QmO, QH, QaA, ti0, zi0, ti3, zi3, un3, ti4, zi4, un4, ti9, ei9, zi9, un9, ti22, ei22, ai22, zi22, un22, ti24, Xq, XG, Xx, Xy, zi24, sp24, ti38, zi38, un38, ti39, ti51, Zw, Y1, Zy, ZK, ZY, zi51, sp51, ti52, ei52, ai52, zi52, un52, Qn8, Int.sub_zero, QeU, QX, Ch.cells, Ch.isAgg, T.fold, T.QmN, T.QmO, z1, z2, z3, z4]))); refine hK1 _ ?_; clear hK1
  (try simp only [Qnu, QnC]); refine Qz 6 (fun K1 hK1 => ?_); simp -implicitDefEqProofs only [Qd, Qb, Qg, OpW, aop, undef, AS.ev, Qc, Qr, Qi, QnI, ↓reduceIte, Nat.reduceLT, Nat.reduceEqDiff, Qnl, Qnm, Qnq, Qno, Qnw, QnD, beq_false]; (repeat ((((with_reducible refine Qa fun K E hK hE => ?_)); simp -implicitDefEqProofs only [Q4, Q1, Xb, Qd, Qb, Qg, OpW, QO, aop, undef, Qb2, Qn1, Qn2, Qic, QdW, QfD, AS.ev, Qc, QV, Qn, Qr, QG, YG, QfV, Zb, QaE, Xz, Qf6, Qi, Qw, Qns, QnL, AV.QmP, QB, QU, Yf, Qcs, Xu, Qct, QdQ, QdU, Qcg, QJ, Xp, QaM, Qcp, Qa2, Qcu, QdS, QdG, Qb9, QnF, QnG, Qv, Qby, Qt, QM, Qci, YX, ZC, Zg, QC, Qcf, XC, Qch, QdK, QdH, Qb1, QnH, Qn4, Qn5, QnI, QnJ, ↓reduceIte, Qny, Qnz, Nat.reduceAdd, Nat.reduceLT, Nat.reduceLeDiff, Nat.reduceEqDiff, Nat.reduceSub, Nat.reduceMul, Qnx, QnK, QnU, QnV, QnT, Yi, Z3, Qp, QK, QL, Q5, QW, QZ, aBin, XB, Yj, QP, YK, QT, hget, YQ, hset, hlen, happ, Qnl, Qnm, Qob, QnP, QnQ, Qnn, Qn0, Qnq, QnZ, Qnr, QnW, Qno, QnA, QnE, QnN, QnM, QnO, Qnw, QnD, Qnu, QnC, QS, Q0, Xg, XD, X8, Xa, QY, QbS, QcY, goInt, QnR, QnS, Qnt, Qn6, QnY, Int.toNat_zero, Int.toNat_one, QnX, Qn9, Qoa, Qn7, Qnp, Qn3, beq_true, beq_false, rng0, rng1, rng2, rng3, rng4, rng5, rng6, rng7, rng8, Q2, Nat.reducePow, Nat.zero_le, Nat.zero_mul, T.QmN, T.QmO, QH, QaA, ti0, zi0, ti3, zi3, un3, ti4, zi4, un4, ti9, ei9, zi9, un9, ti22, ei22, ai22, zi22, un22, ti24, Xq, XG, Xx, Xy, zi24, sp24, ti38, zi38, un38, ti39, ti51, Zw, Y1, Zy, ZK, ZY, zi51, sp51, ti52, ei52, ai52, zi52, un52, Qn8, Int.sub_zero, QeU, QX, Ch.cells, Ch.isAgg, T.fold, T.QmN, T.QmO, z1, z2, z3, z4]))); refine hK1 _ ?_; clear hK1
  (try simp only [Qnu, QnC])
  simp -implicitDefEqProofs only [Qd, Qb, Qg, OpW, aop, undef, AS.ev, Qc, Qr, Qi, QnI, ↓reduceIte, Nat.reduceLT, Nat.reduceEqDiff, Qnl, Qnm, Qnq, Qno, beq_false]
  repeat (first | ((first | (with_reducible (first | refine Qa fun K E hK hE => ?_ | refine FunW.ret (FunW.call (ce _)) ?_))); simp -implicitDefEqProofs only [Qd, Qb, Qg, OpW, QO, aop, AS.ev, Qc, Qi, ↓reduceIte, Nat.reduceLT, QnE]) | (with_reducible (first | refine Ql ?_ | refine Qy ?_)) | ((with_reducible refine hK _ ?_); clear hK) | (refine Qk rfl ?_; simp only [↓reduceIte]))
  simp only [QI, Qm, Qu, upd, ↓reduceIte, Qnr, Qnv]; first | refine Qf (htake _ _) (.keep (.v _)) ⟨rfl, rfl⟩ | refine Qf List.take_length (.keep (.v _)) ⟨rfl, rfl⟩
theorem Qk3 (c : Ch) (ho : c.ok) (h : AH) (hT : Tabs h) (z1 : ¬ c.first < 0) (z2 : ¬ c.first > 4) (z3 : ¬ c.second < 0) (z4 : ¬ c.second > 4) (hw : ¬ weigh 64 [c.x, c.y, c.z] 150 < 0) (rx : (c.x.run 200 20).1 = false) : Xd Tryz.prog 8 [c.av] h fun o h' => o = .ret (.b true) ∧ h' = h := by
  have ce := fun L => XJ (h ++ L) (hT.app L)
  have cg : Pure Tryz.prog 9 [.sl 4 [c.x.av, c.y.av, c.z.av] none, .i 150] _ := Ze [c.x, c.y, c.z] 150 ⟨ho.2.2.1, ho.2.2.2.1, ho.2.2.2.2, trivial⟩ (by decide) (by decide)
  rw [decide_eq_false hw] at cg
  have hn := Qat hw
  simp only [ndsL] at hn
  have cx := Xw c.x (by omega) ho.2.2.1
  rw [rx] at cx
  refine Qe Tryz.func8 rfl Tryz.call8 Tryz.ntmps8 (congrArg Array.toList Tryz.results8) (by simp) ?_
  iterate 5 (try (first | (((with_reducible refine Qa fun K E hK hE => ?_)); simp -implicitDefEqProofs only [Qd, Qb, Qg, OpW, aop, undef, AS.ev, Qc, Qr, QG, Qi, Qw, Qns, AV.QmP, QU, QnF, QnG, Qv, Qt, QC, QnH, ↓reduceIte, Qny, Qnz, Nat.reduceAdd, Nat.reduceLT, Nat.reduceLeDiff, Nat.reduceEqDiff, Nat.reduceMul, Qnx, QnT, QP, QnA, QnE, Qnt, rng5, Q2, Nat.reducePow, zi9, ei52, Ch.cells]) | (with_reducible refine Qh fun K hK => ?_) | ((with_reducible refine hK _ ?_); clear hK)))
  (with_reducible refine Qa fun K E hK hE => ?_)
  (try simp only [QnW]); refine Qz 8 (fun K1 hK1 => ?_); simp -implicitDefEqProofs only [Qd, Qb, Qg, OpW, aop, AS.ev, Qc, Qn, Qi, ↓reduceIte, Nat.reduceLT, Nat.reduceEqDiff, QnK, Qp, QK, QL, aBin, QT, Qnl, Qnm, Qnn, Qnq, Qno, Qnw, QnD, Q0, Xg, QnS, Qnt, Qnp, ti3, Zw, Ch.cells, z1, z2]; refine hK1 _ ?_; clear hK1
  (try simp only [Qnu, QnC]); refine Qz 5 (fun K1 hK1 => ?_); simp -implicitDefEqProofs only [Qd, Qb, Qg, OpW, aop, AS.ev, Qc, Qn, Qi, ↓reduceIte, Nat.reduceLT, Nat.reduceEqDiff, Qnx, Qp, QK, QL, aBin, QT, Qnl, Qnm, Qnn, Qnq, Qno, Qnw, QnD, Q0, QnS, Qnt, Qnp, ti3, Y1, Ch.cells, z3]; refine hK1 _ ?_; clear hK1
  (try simp only [Qnu, QnC]); refine Qz 5 (fun K1 hK1 => ?_); simp -implicitDefEqProofs only [Qd, Qb, Qg, OpW, aop, AS.ev, Qc, Qn, Qi, ↓reduceIte, Nat.reduceLT, Nat.reduceEqDiff, Qnx, Qp, QK, QL, aBin, QT, Qnl, Qnm, Qnn, Qnq, Qno, Qnw, QnD, Xg, QnS, Qnt, Qnp, ti3, Y1, Ch.cells, z4]; refine hK1 _ ?_; clear hK1
  (try simp only [Qnu, QnC]); refine Qz 10 (fun K1 hK1 => ?_); simp -implicitDefEqProofs only [Qb, Qg, OpW, aop, undef, AS.ev, Qc, Qn, Qi, Qw, AV.QmP, QB, QnF, QnG, Qv, Qt, QM, QC, QnH, ↓reduceIte, Qny, Qnz, Nat.reduceAdd, Nat.reduceLT, Nat.reduceLeDiff, Nat.reduceEqDiff, Nat.reduceMul, Qnx, QnU, QnT, Qp, QK, QL, QP, QT, Qnl, Qnm, Qnn, Qnq, Qno, QnA, QnE, Qnw, QnD, Qnu, QnC, Qnt, rng3, Q2, Nat.reducePow, T.QmN, ei22, ti24, zi24, Zy, ZK, ZY, Ch.cells, Ch.isAgg, T.fold, T.QmN]; (repeat ((((with_reducible refine Qo cg ?_)); simp -implicitDefEqProofs only [Qd, Qb, Qg, OpW, QO, aop, AS.ev, Qc, Qi, ↓reduceIte, Nat.reduceLT, Nat.reduceEqDiff, Qnp]))); refine hK1 _ ?_; clear hK1
  (try simp only [Qnu, QnC]); refine Qz 6 (fun K1 hK1 => ?_); simp -implicitDefEqProofs only [Qb, Qg, OpW, aop, AS.ev, Qc, Qi, ↓reduceIte, Qny, Qnz, Nat.reduceAdd, Nat.reduceLT, Nat.reduceLeDiff, Nat.reduceEqDiff, Qnx, QnU, QnT, Qp, QK, QL, QT, Qnl, Qnm, Qnn, Qnq, Qno, QnA, QnE, Qnw, QnD, Qnu, QnC, Qnt, ti24, Zy, Ch.cells, Ch.isAgg, T.fold]; (repeat ((((with_reducible refine Qo cx ?_)); simp -implicitDefEqProofs only [Qd, Qb, Qg, OpW, QO, aop, AS.ev, Qc, Qi, QnJ, ↓reduceIte, Nat.reduceLT, Nat.reduceEqDiff, Qnl, Qnm, Qnn, Qnq, Qno, Xa, Qnt, Qnp]))); refine hK1 _ ?_; clear hK1
  (try simp only [Qnu, QnC]); refine Qz 6 (fun K1 hK1 => ?_); simp -implicitDefEqProofs only [Qd, Qb, Qg, OpW, aop, undef, AS.ev, Qc, Qr, Qi, QnI, ↓reduceIte, Nat.reduceLT, Nat.reduceEqDiff, Qnl, Qnm, Qnq, Qno, Qnw, QnD, beq_false]; (repeat ((((with_reducible refine Qa fun K E hK hE => ?_)); simp -implicitDefEqProofs only [Q4, Q1, Xb, Qd, Qb, Qg, OpW, QO, aop, undef, Qb2, Qn1, Qn2, Qic, QdW, QfD, AS.ev, Qc, QV, Qn, Qr, QG, YG, QfV, Zb, QaE, Xz, Qf6, Qi, Qw, Qns, QnL, AV.QmP, QB, QU, Yf, Qcs, Xu, Qct, QdQ, QdU, Qcg, QJ, Xp, QaM, Qcp, Qa2, Qcu, QdS, QdG, Qb9, QnF, QnG, Qv, Qby, Qt, QM, Qci, YX, ZC, Zg, QC, Qcf, XC, Qch, QdK, QdH, Qb1, QnH, Qn4, Qn5, QnI, QnJ, ↓reduceIte, Qny, Qnz, Nat.reduceAdd, Nat.reduceLT, Nat.reduceLeDiff, Nat.reduceEqDiff, Nat.reduceSub, Nat.reduceMul, Qnx, QnK, QnU, QnV, QnT, Yi, Z3, Qp, QK, QL, Q5, QW, QZ, aBin, XB, Yj, QP, YK, QT, hget, YQ, hset, hlen, happ, Qnl, Qnm, Qob, QnP, QnQ, Qnn, Qn0, Qnq, QnZ, Qnr, QnW, Qno, QnA, QnE, QnN, QnM, QnO, Qnw, QnD, Qnu, QnC, QS, Q0, Xg, XD, X8, Xa, QY, QbS, QcY, goInt, QnR, QnS, Qnt, Qn6, QnY, Int.toNat_zero, Int.toNat_one, QnX, Qn9, Qoa, Qn7, Qnp, Qn3, beq_true, beq_false, rng0, rng1, rng2, rng3, rng4, rng5, rng6, rng7, rng8, Q2, Nat.reducePow, Nat.zero_le, Nat.zero_mul, T.QmN, T.QmO, QH, QaA, ti0, zi0, ti3, zi3, un3, ti4, zi4, un4, ti9, ei9, zi9, un9, ti22, ei22, ai22, zi22, un22, ti24, Xq, XG, Xx, Xy, zi24, sp24, ti38, zi38, un38, ti39, ti51, Zw, Y1, Zy, ZK, ZY, zi51, sp51, ti52, ei52, ai52, zi52, un52, Qn8, Int.sub_zero, QeU, QX, Ch.cells, Ch.isAgg, T.fold, T.QmN, T.QmO, z1, z2, z3, z4]))); refine hK1 _ ?_; clear hK1
  (try simp only [Qnu, QnC])
  simp -implicitDefEqProofs only [Qd, Qb, Qg, OpW, aop, undef, AS.ev, Qc, Qr, Qi, QnI, ↓reduceIte, Nat.reduceLT, Nat.reduceEqDiff, Qnl, Qnm, Qnq, Qno, beq_false]
  repeat (first | ((first | (with_reducible (first | refine Qa fun K E hK hE => ?_ | refine FunW.ret (FunW.call (ce _)) ?_))); simp -implicitDefEqProofs only [Qd, Qb, Qg, OpW, QO, aop, AS.ev, Qc, Qi, ↓reduceIte, Nat.reduceLT, QnE]) | (with_reducible (first | refine Ql ?_ | refine Qy ?_)) | ((with_reducible refine hK _ ?_); clear hK) | (refine Qk rfl ?_; simp only [↓reduceIte]))
  simp only [QI, Qm, Qu, upd, ↓reduceIte, Qnr, Qnv]; first | refine Qf (htake _ _) (.keep (.v _)) ⟨rfl, rfl⟩ | refine Qf List.take_length (.keep (.v _)) ⟨rfl, rfl⟩
theorem QlK (c : Ch) (ho : c.ok) (h : AH) (hT : Tabs h) (z1 : ¬ c.first < 0) (z2 : ¬ c.first > 4) (z3 : ¬ c.second < 0) (z4 : ¬ c.second > 4) (hw : ¬ weigh 64 [c.x, c.y, c.z] 150 < 0) (rx : (c.x.run 200 20).1 = true) (ry : (c.y.run 200 20).1 = false) : Xd Tryz.prog 8 [c.av] h fun o h' => o = .ret (.b true) ∧ h' = h := by
  have ce := fun L => XJ (h ++ L) (hT.app L)
  have cg : Pure Tryz.prog 9 [.sl 4 [c.x.av, c.y.av, c.z.av] none, .i 150] _ := Ze [c.x, c.y, c.z] 150 ⟨ho.2.2.1, ho.2.2.2.1, ho.2.2.2.2, trivial⟩ (by decide) (by decide)
  rw [decide_eq_false hw] at cg
  have hn := Qat hw
  simp only [ndsL] at hn
  have cx := Xw c.x (by omega) ho.2.2.1
  rw [rx] at cx
  have cy := Xw c.y (by omega) ho.2.2.2.1
  rw [ry] at cy
  refine Qe Tryz.func8 rfl Tryz.call8 Tryz.ntmps8 (congrArg Array.toList Tryz.results8) (by simp) ?_
  iterate 5 (try (first | (((with_reducible refine Qa fun K E hK hE => ?_)); simp -implicitDefEqProofs only [Qd, Qb, Qg, OpW, aop, undef, AS.ev, Qc, Qr, QG, Qi, Qw, Qns, AV.QmP, QU, QnF, QnG, Qv, Qt, QC, QnH, ↓reduceIte, Qny, Qnz, Nat.reduceAdd, Nat.reduceLT, Nat.reduceLeDiff, Nat.reduceEqDiff, Nat.reduceMul, Qnx, QnT, QP, QnA, QnE, Qnt, rng5, Q2, Nat.reducePow, zi9, ei52, Ch.cells]) | (with_reducible refine Qh fun K hK => ?_) | ((with_reducible refine hK _ ?_); clear hK)))
  (with_reducible refine Qa fun K E hK hE => ?_)
  (try simp only [QnW]); refine Qz 8 (fun K1 hK1 => ?_); simp -implicitDefEqProofs only [Qd, Qb, Qg, OpW, aop, AS.ev, Qc, Qn, Qi, ↓reduceIte, Nat.reduceLT, Nat.reduceEqDiff, QnK, Qp, QK, QL, aBin, QT, Qnl, Qnm, Qnn, Qnq, Qno, Qnw, QnD, Q0, Xg, QnS, Qnt, Qnp, ti3, Zw, Ch.cells, z1, z2]; refine hK1 _ ?_; clear hK1
  (try simp only [Qnu, QnC]); refine Qz 5 (fun K1 hK1 => ?_); simp -implicitDefEqProofs only [Qd, Qb, Qg, OpW, aop, AS.ev, Qc, Qn, Qi, ↓reduceIte, Nat.reduceLT, Nat.reduceEqDiff, Qnx, Qp, QK, QL, aBin, QT, Qnl, Qnm, Qnn, Qnq, Qno, Qnw, QnD, Q0, QnS, Qnt, Qnp, ti3, Y1, Ch.cells, z3]; refine hK1 _ ?_; clear hK1
  (try simp only [Qnu, QnC]); refine Qz 5 (fun K1 hK1 => ?_); simp -implicitDefEqProofs only [Qd, Qb, Qg, OpW, aop, AS.ev, Qc, Qn, Qi, ↓reduceIte, Nat.reduceLT, Nat.reduceEqDiff, Qnx, Qp, QK, QL, aBin, QT, Qnl, Qnm, Qnn, Qnq, Qno, Qnw, QnD, Xg, QnS, Qnt, Qnp, ti3, Y1, Ch.cells, z4]; refine hK1 _ ?_; clear hK1
  (try simp only [Qnu, QnC]); refine Qz 10 (fun K1 hK1 => ?_); simp -implicitDefEqProofs only [Qb, Qg, OpW, aop, undef, AS.ev, Qc, Qn, Qi, Qw, AV.QmP, QB, QnF, QnG, Qv, Qt, QM, QC, QnH, ↓reduceIte, Qny, Qnz, Nat.reduceAdd, Nat.reduceLT, Nat.reduceLeDiff, Nat.reduceEqDiff, Nat.reduceMul, Qnx, QnU, QnT, Qp, QK, QL, QP, QT, Qnl, Qnm, Qnn, Qnq, Qno, QnA, QnE, Qnw, QnD, Qnu, QnC, Qnt, rng3, Q2, Nat.reducePow, T.QmN, ei22, ti24, zi24, Zy, ZK, ZY, Ch.cells, Ch.isAgg, T.fold, T.QmN]; (repeat ((((with_reducible refine Qo cg ?_)); simp -implicitDefEqProofs only [Qd, Qb, Qg, OpW, QO, aop, AS.ev, Qc, Qi, ↓reduceIte, Nat.reduceLT, Nat.reduceEqDiff, Qnp]))); refine hK1 _ ?_; clear hK1
  (try simp only [Qnu, QnC]); refine Qz 6 (fun K1 hK1 => ?_); simp -implicitDefEqProofs only [Qb, Qg, OpW, aop, AS.ev, Qc, Qi, ↓reduceIte, Qny, Qnz, Nat.reduceAdd, Nat.reduceLT, Nat.reduceLeDiff, Nat.reduceEqDiff, Qnx, QnU, QnT, Qp, QK, QL, QT, Qnl, Qnm, Qnn, Qnq, Qno, QnA, QnE, Qnw, QnD, Qnu, QnC, Qnt, ti24, Zy, Ch.cells, Ch.isAgg, T.fold]; (repeat ((((with_reducible refine Qo cx ?_)); simp -implicitDefEqProofs only [Qd, Qb, Qg, OpW, QO, aop, AS.ev, Qc, Qi, QnI, ↓reduceIte, Nat.reduceLT, Nat.reduceEqDiff, Qnl, Qnm, Qnn, Qnq, Qno, Xa, Qnt, Qnp]))); refine hK1 _ ?_; clear hK1
  (try simp only [Qnu, QnC]); refine Qz 6 (fun K1 hK1 => ?_); simp -implicitDefEqProofs only [Qb, Qg, OpW, aop, AS.ev, Qc, Qi, ↓reduceIte, Qny, Qnz, Nat.reduceAdd, Nat.reduceLT, Nat.reduceLeDiff, Nat.reduceEqDiff, Qnx, QnU, QnT, Qp, QK, QL, QT, Qnl, Qnm, Qnn, Qnq, Qno, QnA, QnE, Qnw, QnD, Qnu, QnC, Qnt, ti24, ZK, Ch.cells, Ch.isAgg, T.fold]; (repeat ((((with_reducible refine Qo cy ?_)); simp -implicitDefEqProofs only [Qd, Qb, Qg, OpW, QO, aop, AS.ev, Qc, Qi, QnJ, ↓reduceIte, Nat.reduceLT, Nat.reduceEqDiff, Qnl, Qnm, Qnn, Qnq, Qno, Xa, Qnt, Qnp]))); refine hK1 _ ?_; clear hK1
  (try simp only [Qnu, QnC])
  simp -implicitDefEqProofs only [Qd, Qb, Qg, OpW, aop, undef, AS.ev, Qc, Qr, Qi, QnI, ↓reduceIte, Nat.reduceLT, Nat.reduceEqDiff, Qnl, Qnm, Qnq, Qno, beq_false]
  repeat (first | ((first | (with_reducible (first | refine Qa fun K E hK hE => ?_ | refine FunW.ret (FunW.call (ce _)) ?_))); simp -implicitDefEqProofs only [Qd, Qb, Qg, OpW, QO, aop, AS.ev, Qc, Qi, ↓reduceIte, Nat.reduceLT, QnE]) | (with_reducible (first | refine Ql ?_ | refine Qy ?_)) | ((with_reducible refine hK _ ?_); clear hK) | (refine Qk rfl ?_; simp only [↓reduceIte]))
  simp only [QI, Qm, Qu, upd, ↓reduceIte, Qnr, Qnv]; first | refine Qf (htake _ _) (.keep (.v _)) ⟨rfl, rfl⟩ | refine Qf List.take_length (.keep (.v _)) ⟨rfl, rfl⟩
theorem Qls (c : Ch) (ho : c.ok) (h : AH) (hT : Tabs h) (z1 : ¬ c.first < 0) (z2 : ¬ c.first > 4) (z3 : ¬ c.second < 0) (z4 : ¬ c.second > 4) (hw : ¬ weigh 64 [c.x, c.y, c.z] 150 < 0) (rx : (c.x.run 200 20).1 = true) (ry : (c.y.run 200 20).1 = true) (rz : (c.z.run 200 20).1 = false) : Xd Tryz.prog 8 [c.av] h fun o h' => o = .ret (.b true) ∧ h' = h := by
  have ce := fun L => XJ (h ++ L) (hT.app L)
  have cg : Pure Tryz.prog 9 [.sl 4 [c.x.av, c.y.av, c.z.av] none, .i 150] _ := Ze [c.x, c.y, c.z] 150 ⟨ho.2.2.1, ho.2.2.2.1, ho.2.2.2.2, trivial⟩ (by decide) (by decide)
  rw [decide_eq_false hw] at cg
  have hn := Qat hw
  simp only [ndsL] at hn
  have cx := Xw c.x (by omega) ho.2.2.1
  rw [rx] at cx
  have cy := Xw c.y (by omega) ho.2.2.2.1
  rw [ry] at cy
  have cz := Xw c.z (by omega) ho.2.2.2.2
  rw [rz] at cz
  refine Qe Tryz.func8 rfl Tryz.call8 Tryz.ntmps8 (congrArg Array.toList Tryz.results8) (by simp) ?_
  iterate 5 (try (first | (((with_reducible refine Qa fun K E hK hE => ?_)); simp -implicitDefEqProofs only [Qd, Qb, Qg, OpW, aop, undef, AS.ev, Qc, Qr, QG, Qi, Qw, Qns, AV.QmP, QU, QnF, QnG, Qv, Qt, QC, QnH, ↓reduceIte, Qny, Qnz, Nat.reduceAdd, Nat.reduceLT, Nat.reduceLeDiff, Nat.reduceEqDiff, Nat.reduceMul, Qnx, QnT, QP, QnA, QnE, Qnt, rng5, Q2, Nat.reducePow, zi9, ei52, Ch.cells]) | (with_reducible refine Qh fun K hK => ?_) | ((with_reducible refine hK _ ?_); clear hK)))
  (with_reducible refine Qa fun K E hK hE => ?_)
  (try simp only [QnW]); refine Qz 8 (fun K1 hK1 => ?_); simp -implicitDefEqProofs only [Qd, Qb, Qg, OpW, aop, AS.ev, Qc, Qn, Qi, ↓reduceIte, Nat.reduceLT, Nat.reduceEqDiff, QnK, Qp, QK, QL, aBin, QT, Qnl, Qnm, Qnn, Qnq, Qno, Qnw, QnD, Q0, Xg, QnS, Qnt, Qnp, ti3, Zw, Ch.cells, z1, z2]; refine hK1 _ ?_; clear hK1
  (try simp only [Qnu, QnC]); refine Qz 5 (fun K1 hK1 => ?_); simp -implicitDefEqProofs only [Qd, Qb, Qg, OpW, aop, AS.ev, Qc, Qn, Qi, ↓reduceIte, Nat.reduceLT, Nat.reduceEqDiff, Qnx, Qp, QK, QL, aBin, QT, Qnl, Qnm, Qnn, Qnq, Qno, Qnw, QnD, Q0, QnS, Qnt, Qnp, ti3, Y1, Ch.cells, z3]; refine hK1 _ ?_; clear hK1
  (try simp only [Qnu, QnC]); refine Qz 5 (fun K1 hK1 => ?_); simp -implicitDefEqProofs only [Qd, Qb, Qg, OpW, aop, AS.ev, Qc, Qn, Qi, ↓reduceIte, Nat.reduceLT, Nat.reduceEqDiff, Qnx, Qp, QK, QL, aBin, QT, Qnl, Qnm, Qnn, Qnq, Qno, Qnw, QnD, Xg, QnS, Qnt, Qnp, ti3, Y1, Ch.cells, z4]; refine hK1 _ ?_; clear hK1
  (try simp only [Qnu, QnC]); refine Qz 10 (fun K1 hK1 => ?_); simp -implicitDefEqProofs only [Qb, Qg, OpW, aop, undef, AS.ev, Qc, Qn, Qi, Qw, AV.QmP, QB, QnF, QnG, Qv, Qt, QM, QC, QnH, ↓reduceIte, Qny, Qnz, Nat.reduceAdd, Nat.reduceLT, Nat.reduceLeDiff, Nat.reduceEqDiff, Nat.reduceMul, Qnx, QnU, QnT, Qp, QK, QL, QP, QT, Qnl, Qnm, Qnn, Qnq, Qno, QnA, QnE, Qnw, QnD, Qnu, QnC, Qnt, rng3, Q2, Nat.reducePow, T.QmN, ei22, ti24, zi24, Zy, ZK, ZY, Ch.cells, Ch.isAgg, T.fold, T.QmN]; (repeat ((((with_reducible refine Qo cg ?_)); simp -implicitDefEqProofs only [Qd, Qb, Qg, OpW, QO, aop, AS.ev, Qc, Qi, ↓reduceIte, Nat.reduceLT, Nat.reduceEqDiff, Qnp]))); refine hK1 _ ?_; clear hK1
  (try simp only [Qnu, QnC]); refine Qz 6 (fun K1 hK1 => ?_); simp -implicitDefEqProofs only [Qb, Qg, OpW, aop, AS.ev, Qc, Qi, ↓reduceIte, Qny, Qnz, Nat.reduceAdd, Nat.reduceLT, Nat.reduceLeDiff, Nat.reduceEqDiff, Qnx, QnU, QnT, Qp, QK, QL, QT, Qnl, Qnm, Qnn, Qnq, Qno, QnA, QnE, Qnw, QnD, Qnu, QnC, Qnt, ti24, Zy, Ch.cells, Ch.isAgg, T.fold]; (repeat ((((with_reducible refine Qo cx ?_)); simp -implicitDefEqProofs only [Qd, Qb, Qg, OpW, QO, aop, AS.ev, Qc, Qi, QnI, ↓reduceIte, Nat.reduceLT, Nat.reduceEqDiff, Qnl, Qnm, Qnn, Qnq, Qno, Xa, Qnt, Qnp]))); refine hK1 _ ?_; clear hK1
  (try simp only [Qnu, QnC]); refine Qz 6 (fun K1 hK1 => ?_); simp -implicitDefEqProofs only [Qb, Qg, OpW, aop, AS.ev, Qc, Qi, ↓reduceIte, Qny, Qnz, Nat.reduceAdd, Nat.reduceLT, Nat.reduceLeDiff, Nat.reduceEqDiff, Qnx, QnU, QnT, Qp, QK, QL, QT, Qnl, Qnm, Qnn, Qnq, Qno, QnA, QnE, Qnw, QnD, Qnu, QnC, Qnt, ti24, ZK, Ch.cells, Ch.isAgg, T.fold]; (repeat ((((with_reducible refine Qo cy ?_)); simp -implicitDefEqProofs only [Qd, Qb, Qg, OpW, QO, aop, AS.ev, Qc, Qi, QnI, ↓reduceIte, Nat.reduceLT, Nat.reduceEqDiff, Qnl, Qnm, Qnn, Qnq, Qno, Xa, Qnt, Qnp]))); refine hK1 _ ?_; clear hK1
  (try simp only [Qnu, QnC])
  simp -implicitDefEqProofs only [Qb, Qg, OpW, aop, AS.ev, Qc, Qi, ↓reduceIte, Qny, Qnz, Nat.reduceAdd, Nat.reduceLT, Nat.reduceLeDiff, Nat.reduceEqDiff, Qnx, QnU, QnT, Qp, QK, QL, QT, Qnl, Qnm, Qnn, Qnq, Qno, QnA, QnE, Qnw, QnD, Qnu, QnC, Qnt, ti24, ZY, Ch.cells, Ch.isAgg, T.fold]
  repeat (first | ((first | (with_reducible (first | refine Qa fun K E hK hE => ?_ | refine Qo cz ?_ | refine FunW.ret (FunW.call (ce _)) ?_))); simp -implicitDefEqProofs only [Qd, Qb, Qg, OpW, QO, aop, AS.ev, Qc, Qi, QnJ, ↓reduceIte, Nat.reduceLT, Nat.reduceEqDiff, Qnl, Qnm, Qnn, Qnq, Qno, QnE, Xa, Qnt, Qnp]) | (with_reducible (first | refine Ql ?_ | refine Qy ?_)) | ((with_reducible refine hK _ ?_); clear hK) | (refine Qk rfl ?_; simp only [↓reduceIte]))
  simp only [QI, Qm, Qu, upd, ↓reduceIte, Qnr, Qnv]; first | refine Qf (htake _ _) (.keep (.v _)) ⟨rfl, rfl⟩ | refine Qf List.take_length (.keep (.v _)) ⟨rfl, rfl⟩
end Go.Proofs.YtehjodmnajgdgaaGreatDoor.Ab
set_option maxRecDepth 4000
namespace Go.Proofs.YtehjodmnajgdgaaGreatDoor.Ab
open Go.Proofs
theorem Qjm (c : Ch) (ho : c.ok) (h : AH) (hT : Tabs h) (z1 : ¬ c.first < 0) (z2 : ¬ c.first > 4) (z3 : ¬ c.second < 0) (z4 : ¬ c.second > 4) (hw : ¬ weigh 64 [c.x, c.y, c.z] 150 < 0) (rx : (c.x.run 200 20).1 = true) (ry : (c.y.run 200 20).1 = true) (rz : (c.z.run 200 20).1 = true) : Xd Tryz.prog 8 [c.av] h fun o h' => o = .ret (.b true) ∧ h' = h := by
  have cg : Pure Tryz.prog 9 [.sl 4 [c.x.av, c.y.av, c.z.av] none, .i 150] _ := Ze [c.x, c.y, c.z] 150 ⟨ho.2.2.1, ho.2.2.2.1, ho.2.2.2.2, trivial⟩ (by decide) (by decide)
  rw [decide_eq_false hw] at cg
  have hn := Qat hw
  simp only [ndsL] at hn
  have ce := fun L => XJ (h ++ L) (hT.app L)
  have cx := Xw c.x (by omega) ho.2.2.1
  rw [rx] at cx
  have cy := Xw c.y (by omega) ho.2.2.2.1
  rw [ry] at cy
  have cz := Xw c.z (by omega) ho.2.2.2.2
  rw [rz] at cz
  obtain ⟨m, hm⟩ : ∃ m : Nat, c.first = m := ⟨c.first.toNat, by omega⟩
  obtain ⟨n, hn2⟩ : ∃ n : Nat, c.second = n := ⟨c.second.toNat, by omega⟩
  have m4 : m ≤ 4 := by omega
  have n4 : n ≤ 4 := by omega
  have f1x := Qak rx
  have f1y := Qak ry
  have f1z := Qak rz
  have sm := Qgj m4
  have sn := Qgj n4
  rw [signs] at sm sn
  have qm : (m : Int) < 5 := by omega
  have qn : (n : Int) < 5 := by omega
  have qm' : m < 5 := by omega
  have qn' : n < 5 := by omega
  have z1' : ¬ (m : Int) < 0 := by omega
  have z2' : ¬ (m : Int) > 4 := by omega
  have z3' : ¬ (n : Int) < 0 := by omega
  have z4' : ¬ (n : Int) > 4 := by omega
  have tx := fun hx (hT : Tabs hx) => ZR c.x hx hT.1
  have ty := fun hx (hT : Tabs hx) => ZR c.y hx hT.1
  have tz := fun hx (hT : Tabs hx) => ZR c.z hx hT.1
  rw [txtT, if_pos (by rw [T.QmV, rx])] at tx
  rw [txtT, if_pos (by rw [T.QmV, ry])] at ty
  rw [txtT, if_pos (by rw [T.QmV, rz])] at tz
  have sx := (T.QmS f1x.1).2.1
  have sy := (T.QmS f1y.1).2.1
  have sz := (T.QmS f1z.1).2.1
  rw [← T.QmY c.x f1x.1] at sx
  rw [← T.QmY c.y f1y.1] at sy
  rw [← T.QmY c.z f1z.1] at sz
  have u1 : ∀ b : UInt8, (mkB [b]).size = 1 := fun b => rfl
  have k1 : ({ data := #[40] } : ByteArray).size = 1 := rfl
  have k2 : ({ data := #[41] } : ByteArray).size = 1 := rfl
  have k3 : ({ data := #[41, 32] } : ByteArray).size = 2 := rfl
  have a0 := fun xo yo => Xv Tryz.prog 9 xo yo (({ data := #[40] } : ByteArray)) (c.x.txt) (by simp only [k1]; omega)
  have a1 := fun xo yo => Xv Tryz.prog 9 xo yo (({ data := #[40] } : ByteArray) ++ c.x.txt) (({ data := #[41] } : ByteArray)) (by simp only [QE, k1, k2]; omega)
  have a2 := fun xo yo => Xv Tryz.prog 9 xo yo (({ data := #[40] } : ByteArray) ++ c.x.txt ++ ({ data := #[41] } : ByteArray)) (mkB [opC m]) (by simp only [QE, u1, k1, k2]; omega)
  have a3 := fun xo yo => Xv Tryz.prog 9 xo yo (({ data := #[40] } : ByteArray) ++ c.x.txt ++ ({ data := #[41] } : ByteArray) ++ mkB [opC m]) (({ data := #[40] } : ByteArray)) (by simp only [QE, u1, k1, k2]; omega)
  have a4 := fun xo yo => Xv Tryz.prog 9 xo yo (({ data := #[40] } : ByteArray) ++ c.x.txt ++ ({ data := #[41] } : ByteArray) ++ mkB [opC m] ++ ({ data := #[40] } : ByteArray)) (c.y.txt) (by simp only [QE, u1, k1, k2]; omega)
  have a5 := fun xo yo => Xv Tryz.prog 9 xo yo (({ data := #[40] } : ByteArray) ++ c.x.txt ++ ({ data := #[41] } : ByteArray) ++ mkB [opC m] ++ ({ data := #[40] } : ByteArray) ++ c.y.txt) (({ data := #[41, 32] } : ByteArray)) (by simp only [QE, u1, k1, k2, k3]; omega)
  have a6 := fun xo yo => Xv Tryz.prog 9 xo yo (({ data := #[40] } : ByteArray) ++ c.x.txt ++ ({ data := #[41] } : ByteArray) ++ mkB [opC m] ++ ({ data := #[40] } : ByteArray) ++ c.y.txt ++ ({ data := #[41, 32] } : ByteArray)) (mkB [opC n]) (by simp only [QE, u1, k1, k2, k3]; omega)
  have a7 := fun xo yo => Xv Tryz.prog 9 xo yo (({ data := #[40] } : ByteArray) ++ c.x.txt ++ ({ data := #[41] } : ByteArray) ++ mkB [opC m] ++ ({ data := #[40] } : ByteArray) ++ c.y.txt ++ ({ data := #[41, 32] } : ByteArray) ++ mkB [opC n]) (({ data := #[40] } : ByteArray)) (by simp only [QE, u1, k1, k2, k3]; omega)
  have a8 := fun xo yo => Xv Tryz.prog 9 xo yo (({ data := #[40] } : ByteArray) ++ c.x.txt ++ ({ data := #[41] } : ByteArray) ++ mkB [opC m] ++ ({ data := #[40] } : ByteArray) ++ c.y.txt ++ ({ data := #[41, 32] } : ByteArray) ++ mkB [opC n] ++ ({ data := #[40] } : ByteArray)) (c.z.txt) (by simp only [QE, u1, k1, k2, k3]; omega)
  have a9 := fun xo yo => Xv Tryz.prog 9 xo yo (({ data := #[40] } : ByteArray) ++ c.x.txt ++ ({ data := #[41] } : ByteArray) ++ mkB [opC m] ++ ({ data := #[40] } : ByteArray) ++ c.y.txt ++ ({ data := #[41, 32] } : ByteArray) ++ mkB [opC n] ++ ({ data := #[40] } : ByteArray) ++ c.z.txt) (({ data := #[41] } : ByteArray)) (by simp only [QE, u1, k1, k2, k3]; omega)
  have eS : ({ data := #[40] } : ByteArray) ++ c.x.txt ++ ({ data := #[41] } : ByteArray) ++ mkB [opC m] ++ ({ data := #[40] } : ByteArray) ++ c.y.txt ++ ({ data := #[41, 32] } : ByteArray) ++ mkB [opC n] ++ ({ data := #[40] } : ByteArray) ++ c.z.txt ++ ({ data := #[41] } : ByteArray) = mkB (chL (opC m) (opC n) c.x c.y c.z) := by
    refine QaU ?_
    rw [Z1]
    simp only [Xk, Z1, chL, tl]
    simp
  have hp := Qhw false f1x.1 f1y.1 f1z.1 (QlQ m4) (QlQ n4) (by have := congrArg (fun b => ByteArray.size b) eS; simp only [QE, u1, k1, k2, k3, Xr] at this; omega)
  have f1 := QcD (mkB [opC m]) c.x c.y
  have f2 := QcD (mkB [opC n]) (.mk 2 0 (mkB [opC m]) [c.x, c.y]) c.z
  have g1 := QcD (mkB [opC n]) c.y c.z
  have g2 := QcD (mkB [opC m]) c.x (.mk 2 0 (mkB [opC n]) [c.y, c.z])
  generalize hW : chT (opC m) (opC n) c.x c.y c.z = W at hp
  have hWn : W.nds ≤ 1000000 := by
    rw [← hW, chT]; split <;> (simp only [T.nds, ndsL]; omega)
  have hWo : W.ok := by
    have i0 : i64 2 ∧ i64 0 := by constructor <;> (unfold i64; omega)
    obtain ⟨_, _, ox, oy, oz⟩ := ho
    rw [← hW, chT]; split <;> (simp only [T.ok, oks, Xr]; simp [i0, ox, oy, oz])
  have cW := Xw W hWn hWo
  have cS := Qc5 W hWn
  refine Qe Tryz.func8 rfl Tryz.call8 Tryz.ntmps8 (congrArg Array.toList Tryz.results8) (by simp) ?_
  iterate 5 (try (first | (((with_reducible refine Qa fun K E hK hE => ?_)); simp -implicitDefEqProofs only [Qd, Qb, Qg, OpW, aop, undef, AS.ev, Qc, Qr, QG, Qi, Qw, Qns, AV.QmP, QU, QnF, QnG, Qv, Qt, QC, QnH, ↓reduceIte, Qny, Qnz, Nat.reduceAdd, Nat.reduceLT, Nat.reduceLeDiff, Nat.reduceEqDiff, Nat.reduceMul, Qnx, QnT, QP, QnA, QnE, Qnt, rng5, Q2, Nat.reducePow, zi9, ei52, Ch.cells]) | (with_reducible refine Qh fun K hK => ?_) | ((with_reducible refine hK _ ?_); clear hK)))
  (with_reducible refine Qa fun K E hK hE => ?_)
  (try simp only [QnW]); refine Qz 8 (fun K1 hK1 => ?_); simp -implicitDefEqProofs only [Qd, Qb, Qg, OpW, aop, AS.ev, Qc, Qn, Qi, ↓reduceIte, Nat.reduceLT, Nat.reduceEqDiff, QnK, Qp, QK, QL, aBin, QT, Qnl, Qnm, Qnn, Qnq, Qno, Qnw, QnD, Q0, Xg, QnS, Qnt, Qnp, ti3, Zw, Ch.cells, hm, hn2, z1', z2']; refine hK1 _ ?_; clear hK1
  (try simp only [Qnu, QnC]); refine Qz 5 (fun K1 hK1 => ?_); simp -implicitDefEqProofs only [Qd, Qb, Qg, OpW, aop, AS.ev, Qc, Qn, Qi, ↓reduceIte, Nat.reduceLT, Nat.reduceEqDiff, Qnx, Qp, QK, QL, aBin, QT, Qnl, Qnm, Qnn, Qnq, Qno, Qnw, QnD, Q0, QnS, Qnt, Qnp, ti3, Y1, Ch.cells, hm, hn2, z3']; refine hK1 _ ?_; clear hK1
  (try simp only [Qnu, QnC]); refine Qz 5 (fun K1 hK1 => ?_); simp -implicitDefEqProofs only [Qd, Qb, Qg, OpW, aop, AS.ev, Qc, Qn, Qi, ↓reduceIte, Nat.reduceLT, Nat.reduceEqDiff, Qnx, Qp, QK, QL, aBin, QT, Qnl, Qnm, Qnn, Qnq, Qno, Qnw, QnD, Xg, QnS, Qnt, Qnp, ti3, Y1, Ch.cells, hm, hn2, z4']; refine hK1 _ ?_; clear hK1
  (try simp only [Qnu, QnC]); refine Qz 10 (fun K1 hK1 => ?_); simp -implicitDefEqProofs only [Qb, Qg, OpW, aop, undef, AS.ev, Qc, Qn, Qi, Qw, AV.QmP, QB, QnF, QnG, Qv, Qt, QM, QC, QnH, ↓reduceIte, Qny, Qnz, Nat.reduceAdd, Nat.reduceLT, Nat.reduceLeDiff, Nat.reduceEqDiff, Nat.reduceMul, Qnx, QnU, QnT, Qp, QK, QL, QP, QT, Qnl, Qnm, Qnn, Qnq, Qno, QnA, QnE, Qnw, QnD, Qnu, QnC, Qnt, rng3, Q2, Nat.reducePow, T.QmN, ei22, ti24, zi24, Zy, ZK, ZY, Ch.cells, Ch.isAgg, T.fold, T.QmN, hm, hn2]; (repeat ((((with_reducible refine Qo cg ?_)); simp -implicitDefEqProofs only [Qd, Qb, Qg, OpW, QO, aop, AS.ev, Qc, Qi, ↓reduceIte, Nat.reduceLT, Nat.reduceEqDiff, Qnp]))); refine hK1 _ ?_; clear hK1
  (try simp only [Qnu, QnC]); refine Qz 6 (fun K1 hK1 => ?_); simp -implicitDefEqProofs only [Qb, Qg, OpW, aop, AS.ev, Qc, Qi, ↓reduceIte, Qny, Qnz, Nat.reduceAdd, Nat.reduceLT, Nat.reduceLeDiff, Nat.reduceEqDiff, Qnx, QnU, QnT, Qp, QK, QL, QT, Qnl, Qnm, Qnn, Qnq, Qno, QnA, QnE, Qnw, QnD, Qnu, QnC, Qnt, ti24, Zy, Ch.cells, Ch.isAgg, T.fold, hm, hn2]; (repeat ((((with_reducible refine Qo cx ?_)); simp -implicitDefEqProofs only [Qd, Qb, Qg, OpW, QO, aop, AS.ev, Qc, Qi, QnI, ↓reduceIte, Nat.reduceLT, Nat.reduceEqDiff, Qnl, Qnm, Qnn, Qnq, Qno, Xa, Qnt, Qnp]))); refine hK1 _ ?_; clear hK1
  (try simp only [Qnu, QnC]); refine Qz 6 (fun K1 hK1 => ?_); simp -implicitDefEqProofs only [Qb, Qg, OpW, aop, AS.ev, Qc, Qi, ↓reduceIte, Qny, Qnz, Nat.reduceAdd, Nat.reduceLT, Nat.reduceLeDiff, Nat.reduceEqDiff, Qnx, QnU, QnT, Qp, QK, QL, QT, Qnl, Qnm, Qnn, Qnq, Qno, QnA, QnE, Qnw, QnD, Qnu, QnC, Qnt, ti24, ZK, Ch.cells, Ch.isAgg, T.fold, hm, hn2]; (repeat ((((with_reducible refine Qo cy ?_)); simp -implicitDefEqProofs only [Qd, Qb, Qg, OpW, QO, aop, AS.ev, Qc, Qi, QnI, ↓reduceIte, Nat.reduceLT, Nat.reduceEqDiff, Qnl, Qnm, Qnn, Qnq, Qno, Xa, Qnt, Qnp]))); refine hK1 _ ?_; clear hK1
  (try simp only [Qnu, QnC])
  simp -implicitDefEqProofs only [Qb, Qg, OpW, aop, AS.ev, Qc, Qi, ↓reduceIte, Qny, Qnz, Nat.reduceAdd, Nat.reduceLT, Nat.reduceLeDiff, Nat.reduceEqDiff, Qnx, QnU, QnT, Qp, QK, QL, QT, Qnl, Qnm, Qnn, Qnq, Qno, QnA, QnE, Qnw, QnD, Qnu, QnC, Qnt, ti24, ZY, Ch.cells, Ch.isAgg, T.fold, hm, hn2]
  iterate 12 (try (first | ((first | (with_reducible (first | refine Qo cz ?_ | refine QQ f1 ?_ | refine QQ f2 ?_)) | (refine QR (id := 4) [(0, 0), (1, 0), (2, 0), (3, 0), (4, 0), (5, 0), (6, 0), (7, 0), (8, 0), (9, 0), (10, 0), (11, 0)] mixed (by kernel_rfl) fun K hK => ?_) | (refine QR (id := 5) [(0, 0), (1, 0), (2, 0), (3, 0), (4, 0), (5, 0), (6, 0), (7, 1), (8, 0), (9, 0), (10, 0), (11, 1), (12, 2), (13, 2)] mixed (by kernel_rfl) fun K hK => ?_)); simp -implicitDefEqProofs only [Q4, Q1, Xb, Qd, Qb, Qg, OpW, QO, aop, undef, AS.ev, Qc, QV, Qi, Qw, AV.QmP, QB, QU, QJ, QnF, QnG, Qv, Qt, QM, QC, QnH, QnI, ↓reduceIte, Qny, Qnz, Nat.reduceAdd, Nat.reduceLT, Nat.reduceLeDiff, Nat.reduceEqDiff, Nat.reduceMul, Qnx, QnK, QnU, QnT, Qp, QK, QL, Q5, QW, QZ, QP, QT, hget, hset, hlen, happ, Qnl, Qnm, QnP, QnQ, Qnn, Qnq, Qno, QnA, QnE, QnN, QnM, Qnw, QnD, Qnu, QnC, Xa, Qnt, QnY, QnX, Qn9, Qnp, rng2, Q2, Nat.reducePow, T.QmN, T.QmO, ti3, ti9, ei22, ti24, zi24, Zw, Y1, Zy, ZK, ZY, ei52, Ch.cells, Ch.isAgg, T.fold, T.QmN, T.QmO, hm, hn2, sm, sn, qm', qn']) | (with_reducible (first | refine QA ?_ | refine Qj ?_)) | ((with_reducible refine hK _ ?_); clear hK) | (refine Qk rfl ?_; simp only [↓reduceIte, Qnp])))
  refine Y0 (fun s => s.tm 1 = .ptr h.length 0 0 ∧ s.tm 4 = .v (.string (mkB [opC m])) ∧ s.tm 5 = .v (.string (mkB [opC n])) ∧ s.tm 6 = .ptr (h.length + 1) 0 0 ∧ s.h = h ++ [.cells 51 14 [c.av], .cells 24 4 [W.av]]) ?_ ?_
  · rintro ⟨tm, hp'⟩ ⟨t1, t4, t5, t6, hh⟩
    have hh := hh.symm
    dsimp only at t1 t4 t5 t6 hh
    subst hh
    have hT2 := hT.app [.cells 51 14 [c.av], .cells 24 4 [W.av]]
    have pS : ∀ hx, Tabs hx → Xd Tryz.prog 18 [.v (.string (mkB (chL (opC m) (opC n) c.x c.y c.z)))] hx fun o h' => o = .ret (tRes (if (W.run 200 20).1 = true then .ok W [] else .err 6)) ∧ h' = hx := fun hx hT => by
      have := Qau (chL (opC m) (opC n) c.x c.y c.z) (by have := congrArg (fun b => ByteArray.size b) eS; simp only [QE, u1, k1, k2, k3, Xr] at this; omega) hx hT
      rw [hp] at this
      exact this
    cases hr : (W.run 200 20).1 with
    | false =>
      rw [hr] at cW
      rw [hr, if_neg (by decide)] at pS
      simp only [tRes] at pS
      have z6 : ((6 : Int) == 6) = true := rfl
      repeat (first | ((first | (with_reducible (first | refine Qa fun K E hK hE => ?_ | refine Qo cW ?_ | refine Zt (fun hx hk => tx hx (hk.tabs hT2)) ?_ | refine Zt (fun hx hk => ty hx (hk.tabs hT2)) ?_ | refine Zt (fun hx hk => tz hx (hk.tabs hT2)) ?_ | refine Zt (fun hx hk => pS hx (hk.tabs hT2)) ?_ | refine FunW.ret (FunW.call (ce _)) ?_)) | (refine QR (id := 8) [(0, 0), (1, 0), (8, 0), (9, 0), (16, 0), (17, 0), (5, 0), (13, 0), (2, 0), (3, 0), (4, 0), (6, 0), (7, 0), (10, 0), (11, 0), (12, 0), (14, 0), (15, 0), (18, 0), (19, 0), (20, 0), (21, 0), (22, 0), (23, 0), (24, 1), (25, 2), (26, 2), (27, 0)] mixed (by kernel_rfl) fun K hK => ?_)); simp -implicitDefEqProofs only [Q4, Q1, Xb, Qd, Qb, Qg, OpW, QO, aop, undef, AS.ev, Qc, QV, Qn, QG, Qi, AV.QmP, QB, QJ, QnF, QnG, Qv, Qt, QM, QC, QnH, QnJ, ↓reduceIte, Qny, Qnz, Nat.reduceAdd, Nat.reduceLT, Nat.reduceLeDiff, Nat.reduceEqDiff, Qnx, QnU, QnT, Qp, QK, QL, Q5, QW, aBin, XB, QT, hget, hset, hlen, happ, Qnl, Qnm, QnP, QnQ, Qnn, Qnq, Qno, QnA, QnE, QnN, QnM, Qnw, QnD, Qnu, QnC, QS, Xa, Qnt, T.QmN, T.QmO, ti24, zi24, Zy, ZK, ZY, Ch.cells, Ch.isAgg, T.fold, T.QmN, T.QmO, t1, t4, t5, t6, a0, a1, a2, a3, a4, a5, a6, a7, a8, a9, eS]) | (with_reducible (first | refine Qh fun K hK => ?_ | refine Ql ?_ | refine Qy ?_)) | ((with_reducible refine hK _ ?_); clear hK) | (refine Qk rfl ?_; simp only [↓reduceIte]))
      simp only [QI, Qm, Qu, upd, ↓reduceIte, Qnr, Qnv]; first | refine Qf (htake _ _) (.keep (.v _)) ⟨rfl, rfl⟩ | refine Qf List.take_length (.keep (.v _)) ⟨rfl, rfl⟩
    | true =>
      rw [hr] at cW
      rw [hr, if_pos rfl] at pS
      simp only [tRes] at pS
      have z6 : ((0 : Int) == 0) = true := rfl
      repeat (first | ((first | (with_reducible (first | refine Qa fun K E hK hE => ?_ | refine Qo cW ?_ | refine Qo cS ?_ | refine Zt (fun hx hk => tx hx (hk.tabs hT2)) ?_ | refine Zt (fun hx hk => ty hx (hk.tabs hT2)) ?_ | refine Zt (fun hx hk => tz hx (hk.tabs hT2)) ?_ | refine Zt (fun hx hk => pS hx (hk.tabs hT2)) ?_ | refine FunW.ret (FunW.call (ce _)) ?_)) | (refine QR (id := 8) [(0, 0), (1, 0), (8, 0), (9, 0), (16, 0), (17, 0), (5, 0), (13, 0), (2, 0), (3, 0), (4, 0), (6, 0), (7, 0), (10, 0), (11, 0), (12, 0), (14, 0), (15, 0), (18, 0), (19, 0), (20, 0), (21, 0), (22, 0), (23, 0), (24, 1), (25, 2), (26, 2), (27, 0)] mixed (by kernel_rfl) fun K hK => ?_)); simp -implicitDefEqProofs only [Q4, Q1, Xb, Qd, Qb, Qg, OpW, QO, aop, undef, AS.ev, Qc, QV, Qn, QG, Qi, AV.QmP, QB, QJ, QnF, QnG, Qv, Qt, QM, QC, QnH, QnI, ↓reduceIte, Qny, Qnz, Nat.reduceAdd, Nat.reduceLT, Nat.reduceLeDiff, Nat.reduceEqDiff, Qnx, QnU, QnT, Qp, QK, QL, Q5, QW, aBin, XB, QT, hget, hset, hlen, happ, Qnl, Qnm, QnP, QnQ, Qnn, Qnq, Qno, QnA, QnE, QnN, QnM, Qnw, QnD, Qnu, QnC, QS, Xa, Qnt, T.QmN, T.QmO, ti24, zi24, Zy, ZK, ZY, Ch.cells, Ch.isAgg, T.fold, T.QmN, T.QmO, t1, t4, t5, t6, a0, a1, a2, a3, a4, a5, a6, a7, a8, a9, eS]) | (with_reducible (first | refine Qh fun K hK => ?_ | refine Ql ?_ | refine QA ?_ | refine Qj ?_)) | ((with_reducible refine hK _ ?_); clear hK) | (refine Qk rfl ?_; simp only [↓reduceIte, Qnp]))
      simp only [QI, Qm, Qu, upd, ↓reduceIte, Qnr, Qnv]; first | refine Qf (htake _ _) (.keep (.v _)) ⟨rfl, rfl⟩ | refine Qf List.take_length (.keep (.v _)) ⟨rfl, rfl⟩
  · by_cases hmn : m < 2 ∧ 2 ≤ n
    · have w1 : (m : Int) < 2 := by omega
      have w2 : (n : Int) ≥ 2 := by omega
      obtain rfl : W = .mk 2 0 (mkB [opC m]) [c.x, .mk 2 0 (mkB [opC n]) [c.y, c.z]] := by
        rw [← hW, chT, if_pos ⟨by rw [QgX m4, if_pos hmn.1], by rw [QgX n4, if_neg (by omega)]⟩]
      repeat (first | ((first | (with_reducible (first | refine Qa fun K E hK hE => ?_ | refine QQ g1 ?_ | refine QQ g2 ?_)) | (refine XE (id := 7) [(0, 0), (1, 0), (2, 0), (3, 0), (4, 0), (5, 0), (6, 0), (7, 0), (8, 0), (9, 1), (10, 0), (11, 1), (12, 2)] mixed (by kernel_rfl) fun K hK => ?_)); simp -implicitDefEqProofs only [Q4, Q1, Xb, Qd, Qb, Qg, OpW, aop, undef, AS.ev, Qc, QV, Qn, Qi, Qw, AV.QmP, QB, QnF, QnG, Qv, Qt, QM, QC, QnH, ↓reduceIte, Qny, Qnz, Nat.reduceAdd, Nat.reduceLT, Nat.reduceLeDiff, Nat.reduceEqDiff, Nat.reduceMul, Qnx, QnK, QnU, QnT, Qp, QK, QL, Q5, QW, aBin, QP, QT, hget, hset, Qnl, Qnm, QnP, QnQ, Qnn, Qnq, Qno, QnA, QnE, Qnw, QnD, Qnu, QnC, Q0, XD, QnR, Qnt, rng2, Q2, Nat.reducePow, T.QmN, T.QmO, ti3, ei22, ti24, zi24, Zw, Y1, Zy, ZK, ZY, Ch.cells, Ch.isAgg, T.fold, T.QmN, T.QmO, hm, hn2, w1, w2]) | (with_reducible refine Qj ?_) | ((with_reducible refine hK _ ?_); clear hK) | (refine Qk rfl ?_; simp only [↓reduceIte]))
      exact ⟨rfl, rfl, rfl, rfl, rfl⟩
    · obtain rfl : W = .mk 2 0 (mkB [opC n]) [.mk 2 0 (mkB [opC m]) [c.x, c.y], c.z] := by
        rw [← hW, chT, if_neg]
        rintro ⟨e1, e2⟩
        rw [QgX m4] at e1
        rw [QgX n4] at e2
        refine hmn ⟨?_, ?_⟩
        · apply Classical.byContradiction; intro hc; rw [if_neg hc] at e1; cases e1
        · apply Classical.byContradiction; intro hc; rw [if_pos (by omega)] at e2; cases e2
      by_cases w1 : (m : Int) < 2
      · have w2 : ¬ (n : Int) ≥ 2 := by omega
        repeat (first | (((with_reducible refine Qa fun K E hK hE => ?_)); simp -implicitDefEqProofs only [Qd, Qb, Qg, OpW, aop, AS.ev, Qc, Qn, Qi, ↓reduceIte, Nat.reduceLT, Nat.reduceEqDiff, Qnx, QnK, Qp, QK, QL, aBin, QT, Qnl, Qnm, Qnn, Qnq, Qno, Q0, XD, QnR, QnS, Qnt, ti3, Zw, Y1, Ch.cells, hm, hn2, w1, w2]) | (with_reducible (first | refine QA ?_ | refine Qj ?_)) | ((with_reducible refine hK _ ?_); clear hK) | (refine Qk rfl ?_; simp only [↓reduceIte, Qnp]))
        exact ⟨rfl, rfl, rfl, rfl, rfl⟩
      · repeat (first | (((with_reducible refine Qa fun K E hK hE => ?_)); simp -implicitDefEqProofs only [Qd, Qb, Qg, OpW, aop, undef, AS.ev, Qc, Qn, Qr, Qi, ↓reduceIte, Nat.reduceLT, Nat.reduceEqDiff, QnK, Qp, QK, QL, aBin, QT, Qnl, Qnm, Qnn, Qnq, Qno, Q0, QnS, Qnp, beq_true, ti3, Zw, Ch.cells, hm, hn2, w1]) | (with_reducible (first | refine QA ?_ | refine Qj ?_)) | ((with_reducible refine hK _ ?_); clear hK) | (refine Qk rfl ?_; simp only [↓reduceIte, Qnp]))
        exact ⟨rfl, rfl, rfl, rfl, rfl⟩
theorem QjY (c : Ch) (ho : c.ok) (h : AH) (hT : Tabs h) : Xd Tryz.prog 8 [c.av] h fun o h' => o = .ret (.b true) ∧ h' = h := by
  by_cases z1 : c.first < 0
  · exact Qk5 c ho h hT z1
  by_cases z2 : c.first > 4
  · exact QkQ c ho h hT z1 z2
  by_cases z3 : c.second < 0
  · exact Qlr c ho h hT z1 z2 z3
  by_cases z4 : c.second > 4
  · exact QkX c ho h hT z1 z2 z3 z4
  by_cases hw : weigh 64 [c.x, c.y, c.z] 150 < 0
  · exact QlF c ho h hT z1 z2 z3 z4 hw
  cases rx : (c.x.run 200 20).1 with
  | false => exact Qk3 c ho h hT z1 z2 z3 z4 hw rx
  | true =>
    cases ry : (c.y.run 200 20).1 with
    | false => exact QlK c ho h hT z1 z2 z3 z4 hw rx ry
    | true =>
      cases rz : (c.z.run 200 20).1 with
      | false => exact Qls c ho h hT z1 z2 z3 z4 hw rx ry rz
      | true => exact Qjm c ho h hT z1 z2 z3 z4 hw rx ry rz
end Go.Proofs.YtehjodmnajgdgaaGreatDoor.Ab
namespace Go.Proofs.YtehjodmnajgdgaaGreatDoor.Ab
open Go.Proofs
theorem QiO {H : Type} (enc : TypeId × Value → H) (W : World) (fuel : Nat) (cs : List Value) (y : DataW H × List MemPlace) (h : DataW.trod enc Tryz.prog W 0 (fun _ => true) true fuel 51 cs = some y) : ∃ p : Ch, Ch.ok p ∧ Reads W (Ch.av p) cs := by
  obtain ⟨xs, fu, hfu, _, hl, hlen, hf⟩ := DataW.trod_struct Tryz.underlying51 h
  have hC : Tryz.prog.cellsOf 51 = 14 := by kernel_rfl
  rw [hC] at hl
  have hlenN : xs.length = 5 := hlen
  obtain ⟨y0, l1, rfl, k1⟩ := Xi hlenN
  obtain ⟨y1, l2, rfl, k2⟩ := Xi k1
  obtain ⟨y2, l3, rfl, k3⟩ := Xi k2
  obtain ⟨y3, l4, rfl, k4⟩ := Xi k3
  obtain ⟨y4, l5, rfl, k5⟩ := Xi k4
  obtain rfl := len_nil k5
  obtain ⟨c0, l1, rfl, k1⟩ := Xi hl
  obtain ⟨c1, l2, rfl, k2⟩ := Xi k1
  obtain ⟨c2, l3, rfl, k3⟩ := Xi k2
  obtain ⟨c3, l4, rfl, k4⟩ := Xi k3
  obtain ⟨c4, l5, rfl, k5⟩ := Xi k4
  obtain ⟨c5, l6, rfl, k6⟩ := Xi k5
  obtain ⟨c6, l7, rfl, k7⟩ := Xi k6
  obtain ⟨c7, l8, rfl, k8⟩ := Xi k7
  obtain ⟨c8, l9, rfl, k9⟩ := Xi k8
  obtain ⟨c9, l10, rfl, k10⟩ := Xi k9
  obtain ⟨c10, l11, rfl, k11⟩ := Xi k10
  obtain ⟨c11, l12, rfl, k12⟩ := Xi k11
  obtain ⟨c12, l13, rfl, k13⟩ := Xi k12
  obtain ⟨c13, l14, rfl, k14⟩ := Xi k13
  obtain rfl := len_nil k14
  have g0 : DataW.trod enc Tryz.prog W 0 (fun _ => true) true fu 3 (([c0, c1, c2, c3, c4, c5, c6, c7, c8, c9, c10, c11, c12, c13].drop 0).take (Tryz.prog.cellsOf 3)) = some y0 := hf 0 _ rfl
  rw [show Tryz.prog.cellsOf 3 = 1 by kernel_rfl] at g0
  have g1 : DataW.trod enc Tryz.prog W 0 (fun _ => true) true fu 3 (([c0, c1, c2, c3, c4, c5, c6, c7, c8, c9, c10, c11, c12, c13].drop 1).take (Tryz.prog.cellsOf 3)) = some y1 := hf 1 _ rfl
  rw [show Tryz.prog.cellsOf 3 = 1 by kernel_rfl] at g1
  have g2 : DataW.trod enc Tryz.prog W 0 (fun _ => true) true fu 24 (([c0, c1, c2, c3, c4, c5, c6, c7, c8, c9, c10, c11, c12, c13].drop 2).take (Tryz.prog.cellsOf 24)) = some y2 := hf 2 _ rfl
  rw [show Tryz.prog.cellsOf 24 = 4 by kernel_rfl] at g2
  have g3 : DataW.trod enc Tryz.prog W 0 (fun _ => true) true fu 24 (([c0, c1, c2, c3, c4, c5, c6, c7, c8, c9, c10, c11, c12, c13].drop 6).take (Tryz.prog.cellsOf 24)) = some y3 := hf 3 _ rfl
  rw [show Tryz.prog.cellsOf 24 = 4 by kernel_rfl] at g3
  have g4 : DataW.trod enc Tryz.prog W 0 (fun _ => true) true fu 24 (([c0, c1, c2, c3, c4, c5, c6, c7, c8, c9, c10, c11, c12, c13].drop 10).take (Tryz.prog.cellsOf 24)) = some y4 := hf 4 _ rfl
  rw [show Tryz.prog.cellsOf 24 = 4 by kernel_rfl] at g4
  clear hf
  simp only [QnC, Qnu, Qnw, QnD] at g0 g1 g2 g3 g4
  obtain ⟨f0, e0, _, w0⟩ := DataW.trod_int Tryz.underlying3 g0
  obtain ⟨f1, e1, _, w1⟩ := DataW.trod_int Tryz.underlying3 g1
  obtain ⟨f2, q2, hr2⟩ := ZU enc W _ _ _ g2
  obtain ⟨f3, q3, hr3⟩ := ZU enc W _ _ _ g3
  obtain ⟨f4, q4, hr4⟩ := ZU enc W _ _ _ g4
  cases e0
  cases e1
  refine ⟨⟨f0, f1, f2, f3, f4⟩, ⟨QgZ w0, QgZ w1, q2, q3, q4⟩, rfl, fun j x v hx hv => ?_⟩
  rw [Ch.cells] at hx
  match j, hx, hv with
  | 0, hx, hv => simp at hx hv; subst hx; subst hv; exact ⟨.v _, rfl⟩
  | 1, hx, hv => simp at hx hv; subst hx; subst hv; exact ⟨.v _, rfl⟩
  | 2, hx, hv => simp at hx hv; subst hx; subst hv; exact hr2.2 0 _ _ (by rw [T.QmN]; rfl) rfl
  | 3, hx, hv => simp at hx hv; subst hx; subst hv; exact hr2.2 1 _ _ (by rw [T.QmN]; rfl) rfl
  | 4, hx, hv => simp at hx hv; subst hx; subst hv; exact hr2.2 2 _ _ (by rw [T.QmN]; rfl) rfl
  | 5, hx, hv => simp at hx hv; subst hx; subst hv; exact hr2.2 3 _ _ (by rw [T.QmN]; rfl) rfl
  | 6, hx, hv => simp at hx hv; subst hx; subst hv; exact hr3.2 0 _ _ (by rw [T.QmN]; rfl) rfl
  | 7, hx, hv => simp at hx hv; subst hx; subst hv; exact hr3.2 1 _ _ (by rw [T.QmN]; rfl) rfl
  | 8, hx, hv => simp at hx hv; subst hx; subst hv; exact hr3.2 2 _ _ (by rw [T.QmN]; rfl) rfl
  | 9, hx, hv => simp at hx hv; subst hx; subst hv; exact hr3.2 3 _ _ (by rw [T.QmN]; rfl) rfl
  | 10, hx, hv => simp at hx hv; subst hx; subst hv; exact hr4.2 0 _ _ (by rw [T.QmN]; rfl) rfl
  | 11, hx, hv => simp at hx hv; subst hx; subst hv; exact hr4.2 1 _ _ (by rw [T.QmN]; rfl) rfl
  | 12, hx, hv => simp at hx hv; subst hx; subst hv; exact hr4.2 2 _ _ (by rw [T.QmN]; rfl) rfl
  | 13, hx, hv => simp at hx hv; subst hx; subst hv; exact hr4.2 3 _ _ (by rw [T.QmN]; rfl) rfl
  | j + 14, hx, hv => simp at hx
end Go.Proofs.YtehjodmnajgdgaaGreatDoor.Ab
