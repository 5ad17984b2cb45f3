/-
  An abstract program logic, contracts of functions, and laws of terms and rules (part 3).
-/
import Derived.Test.YtehjodmnajgdgaaGreatDoorAbTwo
import Derived.Lib.Strings
import Derived.Shelf.Strings.Builder1
import Derived.Shelf.Strings.Trim
import Derived.Shelf.Strconv.Atoi
import Derived.Shelf.Strconv.Itoa0
import Derived.Shelf.Strconv.Itoa1
import Derived.Shelf.LaysM
import Derived.Shelf.Strconv.Itoa2
import Derived.Shelf.Strconv.Itoa3
import Derived.Shelf.Strconv.AtoiErrFast
import Derived.Shelf.Strconv.ParseIntEmpty
import Derived.Shelf.Strconv.AtoiFail
import Derived.Shelf.Strconv.Clone
import Derived.Shelf.Strconv.SyntaxError
import Derived.Shelf.LaysC
import Derived.Shelf.Strconv.ToError
import Derived.Shelf.Strconv.Lower
import Derived.Shelf.Strconv.ParseUint10
import Derived.Shelf.Strconv.ParseUint10Empty
import Derived.Shelf.Strconv.ParseUint10Any
import Derived.Shelf.Strconv.ParseInt10
import Derived.Shelf.Strconv.AtoiLong
import Derived.Shelf.Strconv.AtoiInnerAll
import Derived.Shelf.Strconv.RangeError
import Derived.Shelf.Strconv.ToErrorRange
import Derived.Shelf.Strconv.AtoiAll
import Derived.Shelf.Strconv.ErrVarAll
import Derived.Shelf.Strings.Search1
import Derived.Shelf.Strings.Search2
import Derived.Shelf.Strings.Search3
import Derived.Shelf.Strings.Shaped
import Derived.Test.YtehjodmnajgdgaaGreatDoorProg
import Derived.Lib.ConvBytes
import Derived.Lib.AtoiErrMem
import Derived.ProofKit
import Derived.WalkKit
import Derived.OpenShut
import Derived.LaidSub
import Derived.Lib.LaidTab
import Derived.Lib.ItoaNum
import Derived.Lib.ItoaMem
import Derived.Lib.AtoiTie
import Derived.RecoverIn
set_option linter.unusedVariables false
set_option linter.unusedSimpArgs false
set_option maxHeartbeats 4000000
set_option maxRecDepth 4000
namespace Go.Proofs.YtehjodmnajgdgaaGreatDoor.Ab
open Go.Proofs
theorem FunW.call {P : Program} {f : FuncId} {args : List AV} {h : AH} {Q : AOut → AH → Prop} (H : Xf P f args h Q) : FunW P (.fn (.func f) [] []) args h Q := FunW.fn (by rw [List.nil_append, List.append_nil]; exact H)
theorem FunW.ret {P : Program} {fv : AV} {args : List AV} {h h' : AH} {r : AV} {Q : AOut → AH → Prop} (H : FunW P fv args h fun o h2 => o = .ret r ∧ h2 = h') (k : Q (.ret r) h') : FunW P fv args h Q := H.mono (by rintro _ _ ⟨rfl, rfl⟩; exact k)
def ofN (c : Int) : Int := if 97 ≤ c ∧ c ≤ 122 then 1 else if (65 ≤ c ∧ c ≤ 90) ∨ c = 95 then 2 else if 48 ≤ c ∧ c ≤ 57 then 4 else 0
theorem Qjw (c : Int) (hc : 0 ≤ c ∧ c < 256) : Pure Tryz.prog 126 [.v (.int .u8 c)] (.v (.int .u8 (ofN c))) := by
 intro h
 have hcs : c < 48 ∨ 48 ≤ c ∧ c ≤ 57 ∨ 58 ≤ c ∧ c ≤ 64 ∨ 65 ≤ c ∧ c ≤ 90 ∨ 91 ≤ c ∧ c ≤ 94 ∨ c = 95 ∨ c = 96 ∨ 97 ≤ c ∧ c ≤ 122 ∨ 122 < c := by omega
 rcases hcs with hc1 | hc1 | hc1 | hc1 | hc1 | hc1 | hc1 | hc1 | hc1
 ·-- c < 48
  have e0 : ofN c = 0 := by simp only [ofN]; repeat' (first | rw [if_pos (by omega)] | rw [if_neg (by omega)])
  have a1 : ¬ 97 ≤ c := by omega
  have a2 : c ≤ 122 := by omega
  have a3 : ¬ 65 ≤ c := by omega
  have a4 : c ≤ 90 := by omega
  have a5 : ¬ 48 ≤ c := by omega
  have a6 : c ≤ 57 := by omega
  have a7 : (c == 95) = false := by simp; omega
  refine Qe Tryz.func126 rfl Tryz.call126 Tryz.ntmps126 (congrArg Array.toList Tryz.results126) (by simp) ?_
  repeat (first | ((first | (with_reducible (first | refine Qa fun K E hK hE => ?_ | refine Qr fun K E hK hE => ?_))); simp -implicitDefEqProofs only [Qd, Qb, Qf, OpW, aop, undef, AS.ev, Qc, Qn, Qt, Qg, Qv, QmZ, ↓reduceIte, Nat.reduceLT, Nat.reduceEqDiff, aBin, QmS, QmT, QmU, QmX, QmV, QR, Q9, Qnp, QmW, beq_true, a1, a3, a5, a7]) | (with_reducible (first | refine Qi fun K hK => ?_ | refine Qq ?_ | refine Qm ?_ | refine QD ?_ | refine Qj ?_ | refine QF ?_)) | ((with_reducible refine hK _ ?_); clear hK) | (refine Qk rfl ?_; simp only [↓reduceIte, QmW]))
  simp only [QN, Qp, Qw, upd, ↓reduceIte, QmY, Qm2]; first | refine Qh (htake _ _) (.keep (.v _)) ⟨by rw [e0], rfl⟩ | refine Qh List.take_length (.keep (.v _)) ⟨by rw [e0], rfl⟩
 ·-- 48 ≤ c ∧ c ≤ 57
  have e0 : ofN c = 4 := by simp only [ofN]; repeat' (first | rw [if_pos (by omega)] | rw [if_neg (by omega)])
  have a1 : ¬ 97 ≤ c := by omega
  have a2 : c ≤ 122 := by omega
  have a3 : ¬ 65 ≤ c := by omega
  have a4 : c ≤ 90 := by omega
  have a5 : 48 ≤ c := by omega
  have a6 : c ≤ 57 := by omega
  have a7 : (c == 95) = false := by simp; omega
  refine Qe Tryz.func126 rfl Tryz.call126 Tryz.ntmps126 (congrArg Array.toList Tryz.results126) (by simp) ?_
  repeat (first | ((first | (with_reducible (first | refine Qa fun K E hK hE => ?_ | refine Qr fun K E hK hE => ?_))); simp -implicitDefEqProofs only [Qd, Qb, Qf, OpW, aop, undef, AS.ev, Qc, Qn, Qt, Qg, Qv, QmZ, ↓reduceIte, Nat.reduceLT, Nat.reduceEqDiff, aBin, QmS, QmT, QmU, QmX, QmV, QR, Q9, Qno, Qnp, Qm0, QmW, beq_true, a1, a3, a5, a6, a7]) | (with_reducible (first | refine Qi fun K hK => ?_ | refine Qq ?_ | refine Qm ?_ | refine Qj ?_ | refine QA ?_ | refine QJ ?_)) | ((with_reducible refine hK _ ?_); clear hK) | (refine Qk rfl ?_; simp only [↓reduceIte, QmW]))
  simp only [QN, Qp, Qw, upd, ↓reduceIte, QmY, Qm2]; first | refine Qh (htake _ _) (.keep (.v _)) ⟨by rw [e0], rfl⟩ | refine Qh List.take_length (.keep (.v _)) ⟨by rw [e0], rfl⟩
 ·-- 58 ≤ c ∧ c ≤ 64
  have e0 : ofN c = 0 := by simp only [ofN]; repeat' (first | rw [if_pos (by omega)] | rw [if_neg (by omega)])
  have a1 : ¬ 97 ≤ c := by omega
  have a2 : c ≤ 122 := by omega
  have a3 : ¬ 65 ≤ c := by omega
  have a4 : c ≤ 90 := by omega
  have a5 : 48 ≤ c := by omega
  have a6 : ¬ c ≤ 57 := by omega
  have a7 : (c == 95) = false := by simp; omega
  refine Qe Tryz.func126 rfl Tryz.call126 Tryz.ntmps126 (congrArg Array.toList Tryz.results126) (by simp) ?_
  repeat (first | ((first | (with_reducible (first | refine Qa fun K E hK hE => ?_ | refine Qr fun K E hK hE => ?_))); simp -implicitDefEqProofs only [Qd, Qb, Qf, OpW, aop, undef, AS.ev, Qc, Qn, Qt, Qg, Qv, QmZ, ↓reduceIte, Nat.reduceLT, Nat.reduceEqDiff, aBin, QmS, QmT, QmU, QmX, QmV, QR, Q9, Qno, Qnp, Qm0, QmW, beq_true, a1, a3, a5, a6, a7]) | (with_reducible (first | refine Qi fun K hK => ?_ | refine Qq ?_ | refine Qm ?_ | refine QD ?_ | refine Qj ?_ | refine QF ?_)) | ((with_reducible refine hK _ ?_); clear hK) | (refine Qk rfl ?_; simp only [↓reduceIte, QmW]))
  simp only [QN, Qp, Qw, upd, ↓reduceIte, QmY, Qm2]; first | refine Qh (htake _ _) (.keep (.v _)) ⟨by rw [e0], rfl⟩ | refine Qh List.take_length (.keep (.v _)) ⟨by rw [e0], rfl⟩
 ·-- 65 ≤ c ∧ c ≤ 90
  have e0 : ofN c = 2 := by simp only [ofN]; repeat' (first | rw [if_pos (by omega)] | rw [if_neg (by omega)])
  have a1 : ¬ 97 ≤ c := by omega
  have a2 : c ≤ 122 := by omega
  have a3 : 65 ≤ c := by omega
  have a4 : c ≤ 90 := by omega
  have a5 : 48 ≤ c := by omega
  have a6 : ¬ c ≤ 57 := by omega
  have a7 : (c == 95) = false := by simp; omega
  refine Qe Tryz.func126 rfl Tryz.call126 Tryz.ntmps126 (congrArg Array.toList Tryz.results126) (by simp) ?_
  repeat (first | (((with_reducible refine Qa fun K E hK hE => ?_)); simp -implicitDefEqProofs only [Qd, Qb, Qf, OpW, aop, undef, AS.ev, Qc, Qn, Qt, Qg, Qv, QmZ, ↓reduceIte, Nat.reduceLT, Nat.reduceEqDiff, aBin, QmS, QmT, QmU, QmX, QmV, Q9, Qno, Qnp, Qm0, QmW, beq_true, a1, a3, a4]) | (with_reducible (first | refine Qi fun K hK => ?_ | refine Qq ?_ | refine Qm ?_ | refine QD ?_ | refine Qj ?_ | refine QA ?_ | refine QJ ?_)) | ((with_reducible refine hK _ ?_); clear hK) | (refine Qk rfl ?_; simp only [↓reduceIte, QmW]))
  simp only [QN, Qp, Qw, upd, ↓reduceIte, QmY, Qm2]; first | refine Qh (htake _ _) (.keep (.v _)) ⟨by rw [e0], rfl⟩ | refine Qh List.take_length (.keep (.v _)) ⟨by rw [e0], rfl⟩
 ·-- 91 ≤ c ∧ c ≤ 94
  have e0 : ofN c = 0 := by simp only [ofN]; repeat' (first | rw [if_pos (by omega)] | rw [if_neg (by omega)])
  have a1 : ¬ 97 ≤ c := by omega
  have a2 : c ≤ 122 := by omega
  have a3 : 65 ≤ c := by omega
  have a4 : ¬ c ≤ 90 := by omega
  have a5 : 48 ≤ c := by omega
  have a6 : ¬ c ≤ 57 := by omega
  have a7 : (c == 95) = false := by simp; omega
  refine Qe Tryz.func126 rfl Tryz.call126 Tryz.ntmps126 (congrArg Array.toList Tryz.results126) (by simp) ?_
  repeat (first | ((first | (with_reducible (first | refine Qa fun K E hK hE => ?_ | refine Qr fun K E hK hE => ?_))); simp -implicitDefEqProofs only [Qd, Qb, Qf, OpW, aop, undef, AS.ev, Qc, Qn, Qt, Qg, Qv, QmZ, ↓reduceIte, Nat.reduceLT, Nat.reduceEqDiff, aBin, QmS, QmT, QmU, QmX, QmV, QR, Q9, Qno, Qnp, Qm0, QmW, beq_true, a1, a3, a4, a5, a6, a7]) | (with_reducible (first | refine Qi fun K hK => ?_ | refine Qq ?_ | refine Qm ?_ | refine QD ?_ | refine Qj ?_ | refine QF ?_)) | ((with_reducible refine hK _ ?_); clear hK) | (refine Qk rfl ?_; simp only [↓reduceIte, QmW]))
  simp only [QN, Qp, Qw, upd, ↓reduceIte, QmY, Qm2]; first | refine Qh (htake _ _) (.keep (.v _)) ⟨by rw [e0], rfl⟩ | refine Qh List.take_length (.keep (.v _)) ⟨by rw [e0], rfl⟩
 ·-- c = 95
  have e0 : ofN c = 2 := by simp only [ofN]; repeat' (first | rw [if_pos (by omega)] | rw [if_neg (by omega)])
  have a1 : ¬ 97 ≤ c := by omega
  have a2 : c ≤ 122 := by omega
  have a3 : 65 ≤ c := by omega
  have a4 : ¬ c ≤ 90 := by omega
  have a5 : 48 ≤ c := by omega
  have a6 : ¬ c ≤ 57 := by omega
  have a7 : (c == 95) = true := by simp; omega
  refine Qe Tryz.func126 rfl Tryz.call126 Tryz.ntmps126 (congrArg Array.toList Tryz.results126) (by simp) ?_
  repeat (first | ((first | (with_reducible (first | refine Qa fun K E hK hE => ?_ | refine Qr fun K E hK hE => ?_))); simp -implicitDefEqProofs only [Qd, Qb, Qf, OpW, aop, undef, AS.ev, Qc, Qn, Qt, Qg, Qv, QmZ, ↓reduceIte, Nat.reduceLT, Nat.reduceEqDiff, aBin, QmS, QmT, QmU, QmX, QmV, QR, Q9, Qno, Qnp, Qm0, QmW, beq_true, a1, a3, a4, a7]) | (with_reducible (first | refine Qi fun K hK => ?_ | refine Qq ?_ | refine Qm ?_ | refine Qj ?_ | refine QA ?_ | refine QJ ?_)) | ((with_reducible refine hK _ ?_); clear hK) | (refine Qk rfl ?_; simp only [↓reduceIte, QmW]))
  simp only [QN, Qp, Qw, upd, ↓reduceIte, QmY, Qm2]; first | refine Qh (htake _ _) (.keep (.v _)) ⟨by rw [e0], rfl⟩ | refine Qh List.take_length (.keep (.v _)) ⟨by rw [e0], rfl⟩
 ·-- c = 96
  have e0 : ofN c = 0 := by simp only [ofN]; repeat' (first | rw [if_pos (by omega)] | rw [if_neg (by omega)])
  have a1 : ¬ 97 ≤ c := by omega
  have a2 : c ≤ 122 := by omega
  have a3 : 65 ≤ c := by omega
  have a4 : ¬ c ≤ 90 := by omega
  have a5 : 48 ≤ c := by omega
  have a6 : ¬ c ≤ 57 := by omega
  have a7 : (c == 95) = false := by simp; omega
  refine Qe Tryz.func126 rfl Tryz.call126 Tryz.ntmps126 (congrArg Array.toList Tryz.results126) (by simp) ?_
  repeat (first | ((first | (with_reducible (first | refine Qa fun K E hK hE => ?_ | refine Qr fun K E hK hE => ?_))); simp -implicitDefEqProofs only [Qd, Qb, Qf, OpW, aop, undef, AS.ev, Qc, Qn, Qt, Qg, Qv, QmZ, ↓reduceIte, Nat.reduceLT, Nat.reduceEqDiff, aBin, QmS, QmT, QmU, QmX, QmV, QR, Q9, Qno, Qnp, Qm0, QmW, beq_true, a1, a3, a4, a5, a6, a7]) | (with_reducible (first | refine Qi fun K hK => ?_ | refine Qq ?_ | refine Qm ?_ | refine QD ?_ | refine Qj ?_ | refine QF ?_)) | ((with_reducible refine hK _ ?_); clear hK) | (refine Qk rfl ?_; simp only [↓reduceIte, QmW]))
  simp only [QN, Qp, Qw, upd, ↓reduceIte, QmY, Qm2]; first | refine Qh (htake _ _) (.keep (.v _)) ⟨by rw [e0], rfl⟩ | refine Qh List.take_length (.keep (.v _)) ⟨by rw [e0], rfl⟩
 ·-- 97 ≤ c ∧ c ≤ 122
  have e0 : ofN c = 1 := by simp only [ofN]; repeat' (first | rw [if_pos (by omega)] | rw [if_neg (by omega)])
  have a1 : 97 ≤ c := by omega
  have a2 : c ≤ 122 := by omega
  have a3 : 65 ≤ c := by omega
  have a4 : ¬ c ≤ 90 := by omega
  have a5 : 48 ≤ c := by omega
  have a6 : ¬ c ≤ 57 := by omega
  have a7 : (c == 95) = false := by simp; omega
  refine Qe Tryz.func126 rfl Tryz.call126 Tryz.ntmps126 (congrArg Array.toList Tryz.results126) (by simp) ?_
  repeat (first | (((with_reducible refine Qa fun K E hK hE => ?_)); simp -implicitDefEqProofs only [Qd, Qb, Qf, OpW, aop, undef, AS.ev, Qc, Qn, Qg, Qv, QmZ, ↓reduceIte, Nat.reduceLT, Nat.reduceEqDiff, aBin, QmS, QmT, QmU, QmX, QmV, Q9, Qno, Qm0, a1, a2]) | (with_reducible (first | refine Qi fun K hK => ?_ | refine Qq ?_ | refine Qm ?_ | refine QA ?_ | refine QJ ?_)) | ((with_reducible refine hK _ ?_); clear hK) | (refine Qk rfl ?_; simp only [↓reduceIte]))
  simp only [QN, Qp, Qw, upd, ↓reduceIte, QmY, Qm2]; first | refine Qh (htake _ _) (.keep (.v _)) ⟨by rw [e0], rfl⟩ | refine Qh List.take_length (.keep (.v _)) ⟨by rw [e0], rfl⟩
 ·-- 122 < c
  have e0 : ofN c = 0 := by simp only [ofN]; repeat' (first | rw [if_pos (by omega)] | rw [if_neg (by omega)])
  have a1 : 97 ≤ c := by omega
  have a2 : ¬ c ≤ 122 := by omega
  have a3 : 65 ≤ c := by omega
  have a4 : ¬ c ≤ 90 := by omega
  have a5 : 48 ≤ c := by omega
  have a6 : ¬ c ≤ 57 := by omega
  have a7 : (c == 95) = false := by simp; omega
  refine Qe Tryz.func126 rfl Tryz.call126 Tryz.ntmps126 (congrArg Array.toList Tryz.results126) (by simp) ?_
  repeat (first | ((first | (with_reducible (first | refine Qa fun K E hK hE => ?_ | refine Qr fun K E hK hE => ?_))); simp -implicitDefEqProofs only [Qd, Qb, Qf, OpW, aop, undef, AS.ev, Qc, Qn, Qg, Qv, QmZ, ↓reduceIte, Nat.reduceLT, Nat.reduceEqDiff, aBin, QmS, QmT, QmU, QmX, QmV, QR, Q9, Qno, Qnp, Qm0, a1, a2, a3, a4, a5, a6, a7]) | (with_reducible (first | refine Qi fun K hK => ?_ | refine Qq ?_ | refine Qm ?_ | refine QD ?_ | refine Qj ?_ | refine QF ?_)) | ((with_reducible refine hK _ ?_); clear hK) | (refine Qk rfl ?_; simp only [↓reduceIte, QmW]))
  simp only [QN, Qp, Qw, upd, ↓reduceIte, QmY, Qm2]; first | refine Qh (htake _ _) (.keep (.v _)) ⟨by rw [e0], rfl⟩ | refine Qh List.take_length (.keep (.v _)) ⟨by rw [e0], rfl⟩
theorem Qch (c : Int) : Pure Tryz.prog 106 [.v (.int .u8 c)] (.b (decide (97 ≤ c ∧ c ≤ 122))) := by
 intro h
 by_cases a1 : c ≥ 97
 ·by_cases a2 : c ≤ 122
  ·refine Qe Tryz.func106 rfl Tryz.call106 Tryz.ntmps106 (congrArg Array.toList Tryz.results106) (by simp) ?_
   repeat (first | (((with_reducible refine Qa fun K E hK hE => ?_)); simp -implicitDefEqProofs only [Qd, Qb, Qf, OpW, aop, undef, AS.ev, Qc, Qn, Qt, Qg, Qv, QmZ, ↓reduceIte, Nat.reduceLT, Nat.reduceEqDiff, aBin, QmS, QmT, QmU, QmX, QmV, Q9, Xi, Qno, Qm0, a1, a2]) | (with_reducible refine Qm ?_) | ((with_reducible refine hK _ ?_); clear hK))
   simp only [QN, Qp, Qw, upd, ↓reduceIte, QmY, Qm2]; first | refine Qh (htake _ _) (.keep (.v _)) ⟨by rw [decide_eq_true ⟨a1, a2⟩], rfl⟩ | refine Qh List.take_length (.keep (.v _)) ⟨by rw [decide_eq_true ⟨a1, a2⟩], rfl⟩
  ·refine Qe Tryz.func106 rfl Tryz.call106 Tryz.ntmps106 (congrArg Array.toList Tryz.results106) (by simp) ?_
   repeat (first | (((with_reducible refine Qa fun K E hK hE => ?_)); simp -implicitDefEqProofs only [Qd, Qb, Qf, OpW, aop, undef, AS.ev, Qc, Qn, Qt, Qg, Qv, QmZ, ↓reduceIte, Nat.reduceLT, Nat.reduceEqDiff, aBin, QmS, QmT, QmU, QmX, QmV, Q9, Xi, Qno, Qnp, Qm0, a1, a2]) | (with_reducible refine Qm ?_) | ((with_reducible refine hK _ ?_); clear hK))
   simp only [QN, Qp, Qw, upd, ↓reduceIte, QmY, Qm2]; first | refine Qh (htake _ _) (.keep (.v _)) ⟨by rw [decide_eq_false (fun h => a2 h.2)], rfl⟩ | refine Qh List.take_length (.keep (.v _)) ⟨by rw [decide_eq_false (fun h => a2 h.2)], rfl⟩
 ·refine Qe Tryz.func106 rfl Tryz.call106 Tryz.ntmps106 (congrArg Array.toList Tryz.results106) (by simp) ?_
  repeat (first | (((with_reducible refine Qa fun K E hK hE => ?_)); simp -implicitDefEqProofs only [Qd, Qb, Qf, OpW, aop, undef, AS.ev, Qc, Qn, Qt, Qg, Qv, QmZ, ↓reduceIte, Nat.reduceLT, Nat.reduceEqDiff, aBin, QmS, QmT, QmU, QmX, QmV, Xi, Qnp, QmW, beq_true, a1]) | (with_reducible refine Qm ?_) | ((with_reducible refine hK _ ?_); clear hK))
  simp only [QN, Qp, Qw, upd, ↓reduceIte, QmY, Qm2]; first | refine Qh (htake _ _) (.keep (.v _)) ⟨by rw [decide_eq_false (fun h => a1 h.1)], rfl⟩ | refine Qh List.take_length (.keep (.v _)) ⟨by rw [decide_eq_false (fun h => a1 h.1)], rfl⟩
theorem Qfy (c : Int) : Pure Tryz.prog 123 [.v (.int .u8 c)] (.b (decide (65 ≤ c ∧ c ≤ 90))) := by
 intro h
 by_cases a1 : c ≥ 65
 ·by_cases a2 : c ≤ 90
  ·refine Qe Tryz.func123 rfl Tryz.call123 Tryz.ntmps123 (congrArg Array.toList Tryz.results123) (by simp) ?_
   repeat (first | (((with_reducible refine Qa fun K E hK hE => ?_)); simp -implicitDefEqProofs only [Qd, Qb, Qf, OpW, aop, undef, AS.ev, Qc, Qn, Qt, Qg, Qv, QmZ, ↓reduceIte, Nat.reduceLT, Nat.reduceEqDiff, aBin, QmS, QmT, QmU, QmX, QmV, Q9, Xi, Qno, Qm0, a1, a2]) | (with_reducible refine Qm ?_) | ((with_reducible refine hK _ ?_); clear hK))
   simp only [QN, Qp, Qw, upd, ↓reduceIte, QmY, Qm2]; first | refine Qh (htake _ _) (.keep (.v _)) ⟨by rw [decide_eq_true ⟨a1, a2⟩], rfl⟩ | refine Qh List.take_length (.keep (.v _)) ⟨by rw [decide_eq_true ⟨a1, a2⟩], rfl⟩
  ·refine Qe Tryz.func123 rfl Tryz.call123 Tryz.ntmps123 (congrArg Array.toList Tryz.results123) (by simp) ?_
   repeat (first | (((with_reducible refine Qa fun K E hK hE => ?_)); simp -implicitDefEqProofs only [Qd, Qb, Qf, OpW, aop, undef, AS.ev, Qc, Qn, Qt, Qg, Qv, QmZ, ↓reduceIte, Nat.reduceLT, Nat.reduceEqDiff, aBin, QmS, QmT, QmU, QmX, QmV, Q9, Xi, Qno, Qnp, Qm0, a1, a2]) | (with_reducible refine Qm ?_) | ((with_reducible refine hK _ ?_); clear hK))
   simp only [QN, Qp, Qw, upd, ↓reduceIte, QmY, Qm2]; first | refine Qh (htake _ _) (.keep (.v _)) ⟨by rw [decide_eq_false (fun h => a2 h.2)], rfl⟩ | refine Qh List.take_length (.keep (.v _)) ⟨by rw [decide_eq_false (fun h => a2 h.2)], rfl⟩
 ·refine Qe Tryz.func123 rfl Tryz.call123 Tryz.ntmps123 (congrArg Array.toList Tryz.results123) (by simp) ?_
  repeat (first | (((with_reducible refine Qa fun K E hK hE => ?_)); simp -implicitDefEqProofs only [Qd, Qb, Qf, OpW, aop, undef, AS.ev, Qc, Qn, Qt, Qg, Qv, QmZ, ↓reduceIte, Nat.reduceLT, Nat.reduceEqDiff, aBin, QmS, QmT, QmU, QmX, QmV, Xi, Qnp, QmW, beq_true, a1]) | (with_reducible refine Qm ?_) | ((with_reducible refine hK _ ?_); clear hK))
  simp only [QN, Qp, Qw, upd, ↓reduceIte, QmY, Qm2]; first | refine Qh (htake _ _) (.keep (.v _)) ⟨by rw [decide_eq_false (fun h => a1 h.1)], rfl⟩ | refine Qh List.take_length (.keep (.v _)) ⟨by rw [decide_eq_false (fun h => a1 h.1)], rfl⟩
def resB (s : ByteArray) : Bool := (s.toList == ({ data := #[99, 111, 110, 115, 116, 114, 97, 105, 110, 116] } : ByteArray).toList) || (s.toList == ({ data := #[116, 114, 117, 101] } : ByteArray).toList) || (s.toList == ({ data := #[102, 97, 105, 108] } : ByteArray).toList) || (s.toList == ({ data := #[105, 115] } : ByteArray).toList) || (s.toList == ({ data := #[105, 110, 116] } : ByteArray).toList) || (s.toList == ({ data := #[103, 114, 111, 117, 110, 100] } : ByteArray).toList)
theorem Qe4 (s : ByteArray) : Pure Tryz.prog 114 [.v (.string s)] (.b (resB s)) := by
 intro h
 cases d0 : (s.toList == ({ data := #[99, 111, 110, 115, 116, 114, 97, 105, 110, 116] } : ByteArray).toList) with
 | true =>
  refine Qe Tryz.func114 rfl Tryz.call114 Tryz.ntmps114 (congrArg Array.toList Tryz.results114) (by simp) ?_
  repeat (first | (((with_reducible refine Qa fun K E hK hE => ?_)); simp -implicitDefEqProofs only [Qd, Qb, Qf, OpW, aop, undef, AS.ev, Qc, Qt, QO, Qg, Qv, QmZ, ↓reduceIte, Nat.reduceLT, Nat.reduceEqDiff, aBin, QmU, QY, d0]) | (with_reducible (first | refine Qi fun K hK => ?_ | refine Qq ?_ | refine Qm ?_ | refine QD ?_ | refine Qj ?_ | refine QA ?_ | refine QJ ?_)) | ((with_reducible refine hK _ ?_); clear hK) | (refine Qk rfl ?_; simp only [↓reduceIte]))
  simp only [QN, Qp, Qw, upd, ↓reduceIte, QmY, Qm2]; first | refine Qh (htake _ _) (.keep (.v _)) ⟨by simp only [resB, d0, Bool.true_or], rfl⟩ | refine Qh List.take_length (.keep (.v _)) ⟨by simp only [resB, d0, Bool.true_or], rfl⟩
 | false =>
  cases d1 : (s.toList == ({ data := #[116, 114, 117, 101] } : ByteArray).toList) with
  | true =>
   refine Qe Tryz.func114 rfl Tryz.call114 Tryz.ntmps114 (congrArg Array.toList Tryz.results114) (by simp) ?_
   repeat (first | (((with_reducible refine Qa fun K E hK hE => ?_)); simp -implicitDefEqProofs only [Qd, Qb, Qf, OpW, aop, undef, AS.ev, Qc, Qt, QO, Qg, Qv, QmZ, ↓reduceIte, Nat.reduceLT, Nat.reduceEqDiff, aBin, QmU, QY, d0, d1]) | (with_reducible (first | refine Qi fun K hK => ?_ | refine Qq ?_ | refine Qm ?_ | refine QD ?_ | refine Qj ?_ | refine QA ?_ | refine QJ ?_)) | ((with_reducible refine hK _ ?_); clear hK) | (refine Qk rfl ?_; simp only [↓reduceIte, QmW]))
   simp only [QN, Qp, Qw, upd, ↓reduceIte, QmY, Qm2]; first | refine Qh (htake _ _) (.keep (.v _)) ⟨by simp only [resB, d0, d1, Bool.or_true, Bool.true_or], rfl⟩ | refine Qh List.take_length (.keep (.v _)) ⟨by simp only [resB, d0, d1, Bool.or_true, Bool.true_or], rfl⟩
  | false =>
   cases d2 : (s.toList == ({ data := #[102, 97, 105, 108] } : ByteArray).toList) with
   | true =>
    refine Qe Tryz.func114 rfl Tryz.call114 Tryz.ntmps114 (congrArg Array.toList Tryz.results114) (by simp) ?_
    repeat (first | (((with_reducible refine Qa fun K E hK hE => ?_)); simp -implicitDefEqProofs only [Qd, Qb, Qf, OpW, aop, undef, AS.ev, Qc, Qt, QO, Qg, Qv, QmZ, ↓reduceIte, Nat.reduceLT, Nat.reduceEqDiff, aBin, QmU, QY, d0, d1, d2]) | (with_reducible (first | refine Qi fun K hK => ?_ | refine Qq ?_ | refine Qm ?_ | refine QD ?_ | refine Qj ?_ | refine QA ?_ | refine QJ ?_)) | ((with_reducible refine hK _ ?_); clear hK) | (refine Qk rfl ?_; simp only [↓reduceIte, QmW]))
    simp only [QN, Qp, Qw, upd, ↓reduceIte, QmY, Qm2]; first | refine Qh (htake _ _) (.keep (.v _)) ⟨by simp only [resB, d0, d1, d2, Bool.or_false, Bool.or_true, Bool.true_or], rfl⟩ | refine Qh List.take_length (.keep (.v _)) ⟨by simp only [resB, d0, d1, d2, Bool.or_false, Bool.or_true, Bool.true_or], rfl⟩
   | false =>
    cases d3 : (s.toList == ({ data := #[105, 115] } : ByteArray).toList) with
    | true =>
     refine Qe Tryz.func114 rfl Tryz.call114 Tryz.ntmps114 (congrArg Array.toList Tryz.results114) (by simp) ?_
     repeat (first | (((with_reducible refine Qa fun K E hK hE => ?_)); simp -implicitDefEqProofs only [Qd, Qb, Qf, OpW, aop, undef, AS.ev, Qc, Qt, QO, Qg, Qv, QmZ, ↓reduceIte, Nat.reduceLT, Nat.reduceEqDiff, aBin, QmU, QY, d0, d1, d2, d3]) | (with_reducible (first | refine Qi fun K hK => ?_ | refine Qq ?_ | refine Qm ?_ | refine QD ?_ | refine Qj ?_ | refine QA ?_ | refine QJ ?_)) | ((with_reducible refine hK _ ?_); clear hK) | (refine Qk rfl ?_; simp only [↓reduceIte, QmW]))
     simp only [QN, Qp, Qw, upd, ↓reduceIte, QmY, Qm2]; first | refine Qh (htake _ _) (.keep (.v _)) ⟨by simp only [resB, d0, d1, d2, d3, Bool.or_false, Bool.or_true, Bool.true_or], rfl⟩ | refine Qh List.take_length (.keep (.v _)) ⟨by simp only [resB, d0, d1, d2, d3, Bool.or_false, Bool.or_true, Bool.true_or], rfl⟩
    | false =>
     cases d4 : (s.toList == ({ data := #[105, 110, 116] } : ByteArray).toList) with
     | true =>
      refine Qe Tryz.func114 rfl Tryz.call114 Tryz.ntmps114 (congrArg Array.toList Tryz.results114) (by simp) ?_
      repeat (first | (((with_reducible refine Qa fun K E hK hE => ?_)); simp -implicitDefEqProofs only [Qd, Qb, Qf, OpW, aop, undef, AS.ev, Qc, Qt, QO, Qg, Qv, QmZ, ↓reduceIte, Nat.reduceLT, Nat.reduceEqDiff, aBin, QmU, QY, d0, d1, d2, d3, d4]) | (with_reducible (first | refine Qi fun K hK => ?_ | refine Qq ?_ | refine Qm ?_ | refine QD ?_ | refine Qj ?_ | refine QA ?_ | refine QJ ?_)) | ((with_reducible refine hK _ ?_); clear hK) | (refine Qk rfl ?_; simp only [↓reduceIte, QmW]))
      simp only [QN, Qp, Qw, upd, ↓reduceIte, QmY, Qm2]; first | refine Qh (htake _ _) (.keep (.v _)) ⟨by simp only [resB, d0, d1, d2, d3, d4, Bool.or_false, Bool.or_true, Bool.true_or], rfl⟩ | refine Qh List.take_length (.keep (.v _)) ⟨by simp only [resB, d0, d1, d2, d3, d4, Bool.or_false, Bool.or_true, Bool.true_or], rfl⟩
     | false =>
      cases d5 : (s.toList == ({ data := #[103, 114, 111, 117, 110, 100] } : ByteArray).toList) with
      | true =>
       refine Qe Tryz.func114 rfl Tryz.call114 Tryz.ntmps114 (congrArg Array.toList Tryz.results114) (by simp) ?_
       repeat (first | ((first | (with_reducible (first | refine Qa fun K E hK hE => ?_ | refine Qr fun K E hK hE => ?_))); simp -implicitDefEqProofs only [Qd, Qb, Qf, OpW, aop, undef, AS.ev, Qc, Qt, QO, Qg, Qv, QmZ, ↓reduceIte, Nat.reduceLT, Nat.reduceEqDiff, aBin, QmU, QY, d0, d1, d2, d3, d4, d5]) | (with_reducible (first | refine Qi fun K hK => ?_ | refine Qq ?_ | refine Qm ?_ | refine Qj ?_ | refine QA ?_ | refine QJ ?_)) | ((with_reducible refine hK _ ?_); clear hK) | (refine Qk rfl ?_; simp only [↓reduceIte, QmW]))
       simp only [QN, Qp, Qw, upd, ↓reduceIte, QmY, Qm2]; first | refine Qh (htake _ _) (.keep (.v _)) ⟨by simp only [resB, d0, d1, d2, d3, d4, d5, Bool.or_false, Bool.or_true], rfl⟩ | refine Qh List.take_length (.keep (.v _)) ⟨by simp only [resB, d0, d1, d2, d3, d4, d5, Bool.or_false, Bool.or_true], rfl⟩
      | false =>
       refine Qe Tryz.func114 rfl Tryz.call114 Tryz.ntmps114 (congrArg Array.toList Tryz.results114) (by simp) ?_
       repeat (first | ((first | (with_reducible (first | refine Qa fun K E hK hE => ?_ | refine Qr fun K E hK hE => ?_))); simp -implicitDefEqProofs only [Qd, Qb, Qf, OpW, aop, undef, AS.ev, Qc, Qt, QO, Qg, Qv, QmZ, ↓reduceIte, Nat.reduceLT, Nat.reduceEqDiff, aBin, QmU, QY, d0, d1, d2, d3, d4, d5]) | (with_reducible (first | refine Qi fun K hK => ?_ | refine Qq ?_ | refine Qm ?_ | refine QD ?_ | refine Qj ?_ | refine QF ?_)) | ((with_reducible refine hK _ ?_); clear hK) | (refine Qk rfl ?_; simp only [↓reduceIte, QmW]))
       simp only [QN, Qp, Qw, upd, ↓reduceIte, QmY, Qm2]; first | refine Qh (htake _ _) (.keep (.v _)) ⟨by simp only [resB, d0, d1, d2, d3, d4, d5, Bool.or_false], rfl⟩ | refine Qh List.take_length (.keep (.v _)) ⟨by simp only [resB, d0, d1, d2, d3, d4, d5, Bool.or_false], rfl⟩
theorem Qc0 (s : ByteArray) : Pure Tryz.prog 107 [.v (.string s)] (.b (resB s)) := by
 intro h
 cases d0 : (s.toList == ({ data := #[99, 111, 110, 115, 116, 114, 97, 105, 110, 116] } : ByteArray).toList) with
 | true =>
  refine Qe Tryz.func107 rfl Tryz.call107 Tryz.ntmps107 (congrArg Array.toList Tryz.results107) (by simp) ?_
  iterate 3 (try (first | (((with_reducible refine Qa fun K E hK hE => ?_)); simp -implicitDefEqProofs only [Qd, Qb, Qf, OpW, aop, AS.ev, Qc, Qt, Nat.reduceLT]) | (with_reducible refine Qi fun K hK => ?_) | ((with_reducible refine hK _ ?_); clear hK)))
  (with_reducible refine Qr fun K E hK hE => ?_)
  (try simp only [Qnt]); refine Qy 4 (fun K1 hK1 => ?_); simp -implicitDefEqProofs only [Qd, Qb, Qf, OpW, aop, undef, AS.ev, Qc, QO, Qg, Qv, QmZ, Qnf, ↓reduceIte, Nat.reduceLT, Nat.reduceEqDiff, aBin, QmS, QmT, QmU, QmX, QmV, Qm3, Qna, QY, beq_false, d0]; refine hK1 _ ?_; clear hK1
  (try simp only [Qm1, Qm9]); refine Qy 4 (fun K1 hK1 => ?_); simp -implicitDefEqProofs only [Qd, Qb, Qf, OpW, aop, undef, AS.ev, Qc, Qt, Qg, Qnf, ↓reduceIte, Nat.reduceLT, Nat.reduceEqDiff, QmS, QmT, QmX, QmV, Qm3, Qna, beq_false]; refine hK1 _ ?_; clear hK1
  (try simp only [Qm1, Qm9]); refine Qy 4 (fun K1 hK1 => ?_); simp -implicitDefEqProofs only [Qd, Qb, Qf, OpW, aop, undef, AS.ev, Qc, Qt, Qg, Qnf, ↓reduceIte, Nat.reduceLT, Nat.reduceEqDiff, QmS, QmT, QmX, QmV, Qm3, Qna, beq_false]; refine hK1 _ ?_; clear hK1
  (try simp only [Qm1, Qm9]); refine Qy 4 (fun K1 hK1 => ?_); simp -implicitDefEqProofs only [Qd, Qb, Qf, OpW, aop, undef, AS.ev, Qc, Qt, Qg, Qnf, ↓reduceIte, Nat.reduceLT, Nat.reduceEqDiff, QmS, QmT, QmX, QmV, Qm3, Qna, beq_false]; refine hK1 _ ?_; clear hK1
  (try simp only [Qm1, Qm9]); refine Qy 4 (fun K1 hK1 => ?_); simp -implicitDefEqProofs only [Qd, Qb, Qf, OpW, aop, undef, AS.ev, Qc, Qt, Qg, Qnf, ↓reduceIte, Nat.reduceLT, Nat.reduceEqDiff, QmS, QmT, QmX, QmV, Qm3, Qna, beq_false]; refine hK1 _ ?_; clear hK1
  (try simp only [Qm1, Qm9])
  simp -implicitDefEqProofs only [Qd, Qb, Qf, OpW, aop, undef, AS.ev, Qc, Qt, Qg, Qnf, ↓reduceIte, Nat.reduceLT, Nat.reduceEqDiff, QmS, QmT, QmX, QmV, beq_false]
  repeat (first | (with_reducible (first | refine Qm ?_ | refine Qj ?_)) | ((with_reducible refine hK _ ?_); clear hK))
  simp only [QN, Qp, Qw, upd, ↓reduceIte, QmY, Qm2]; first | refine Qh (htake _ _) (.keep (.v _)) ⟨by simp only [resB, d0, Bool.true_or], rfl⟩ | refine Qh List.take_length (.keep (.v _)) ⟨by simp only [resB, d0, Bool.true_or], rfl⟩
 | false =>
  cases d1 : (s.toList == ({ data := #[116, 114, 117, 101] } : ByteArray).toList) with
  | true =>
   refine Qe Tryz.func107 rfl Tryz.call107 Tryz.ntmps107 (congrArg Array.toList Tryz.results107) (by simp) ?_
   iterate 3 (try (first | (((with_reducible refine Qa fun K E hK hE => ?_)); simp -implicitDefEqProofs only [Qd, Qb, Qf, OpW, aop, AS.ev, Qc, Qt, Nat.reduceLT]) | (with_reducible refine Qi fun K hK => ?_) | ((with_reducible refine hK _ ?_); clear hK)))
   (with_reducible refine Qr fun K E hK hE => ?_)
   (try simp only [Qnt]); refine Qy 4 (fun K1 hK1 => ?_); simp -implicitDefEqProofs only [Qd, Qb, Qf, OpW, aop, undef, AS.ev, Qc, QO, Qg, Qv, QmZ, ↓reduceIte, Nat.reduceLT, Nat.reduceEqDiff, aBin, QmS, QmT, QmU, QmX, QmV, Qm3, Qna, QY, Qm0, d0]; refine hK1 _ ?_; clear hK1
   (try simp only [Qm1, Qm9]); refine Qy 4 (fun K1 hK1 => ?_); simp -implicitDefEqProofs only [Qd, Qb, Qf, OpW, aop, undef, AS.ev, Qc, QO, Qg, Qnf, ↓reduceIte, Nat.reduceLT, Nat.reduceEqDiff, aBin, QmS, QmT, QmU, QmX, QmV, Qm3, Qna, QY, Qm0, QmW, beq_false, d1]; refine hK1 _ ?_; clear hK1
   (try simp only [Qm1, Qm9]); refine Qy 4 (fun K1 hK1 => ?_); simp -implicitDefEqProofs only [Qd, Qb, Qf, OpW, aop, undef, AS.ev, Qc, Qt, Qg, Qnf, ↓reduceIte, Nat.reduceLT, Nat.reduceEqDiff, QmS, QmT, QmX, QmV, Qm3, Qna, beq_false]; refine hK1 _ ?_; clear hK1
   (try simp only [Qm1, Qm9]); refine Qy 4 (fun K1 hK1 => ?_); simp -implicitDefEqProofs only [Qd, Qb, Qf, OpW, aop, undef, AS.ev, Qc, Qt, Qg, Qnf, ↓reduceIte, Nat.reduceLT, Nat.reduceEqDiff, QmS, QmT, QmX, QmV, Qm3, Qna, beq_false]; refine hK1 _ ?_; clear hK1
   (try simp only [Qm1, Qm9]); refine Qy 4 (fun K1 hK1 => ?_); simp -implicitDefEqProofs only [Qd, Qb, Qf, OpW, aop, undef, AS.ev, Qc, Qt, Qg, Qnf, ↓reduceIte, Nat.reduceLT, Nat.reduceEqDiff, QmS, QmT, QmX, QmV, Qm3, Qna, beq_false]; refine hK1 _ ?_; clear hK1
   (try simp only [Qm1, Qm9])
   simp -implicitDefEqProofs only [Qd, Qb, Qf, OpW, aop, undef, AS.ev, Qc, Qt, Qg, Qnf, ↓reduceIte, Nat.reduceLT, Nat.reduceEqDiff, QmS, QmT, QmX, QmV, beq_false]
   repeat (first | (with_reducible (first | refine Qm ?_ | refine Qj ?_)) | ((with_reducible refine hK _ ?_); clear hK))
   simp only [QN, Qp, Qw, upd, ↓reduceIte, QmY, Qm2]; first | refine Qh (htake _ _) (.keep (.v _)) ⟨by simp only [resB, d0, d1, Bool.or_true, Bool.true_or], rfl⟩ | refine Qh List.take_length (.keep (.v _)) ⟨by simp only [resB, d0, d1, Bool.or_true, Bool.true_or], rfl⟩
  | false =>
   cases d2 : (s.toList == ({ data := #[102, 97, 105, 108] } : ByteArray).toList) with
   | true =>
    refine Qe Tryz.func107 rfl Tryz.call107 Tryz.ntmps107 (congrArg Array.toList Tryz.results107) (by simp) ?_
    iterate 3 (try (first | (((with_reducible refine Qa fun K E hK hE => ?_)); simp -implicitDefEqProofs only [Qd, Qb, Qf, OpW, aop, AS.ev, Qc, Qt, Nat.reduceLT]) | (with_reducible refine Qi fun K hK => ?_) | ((with_reducible refine hK _ ?_); clear hK)))
    (with_reducible refine Qr fun K E hK hE => ?_)
    (try simp only [Qnt]); refine Qy 4 (fun K1 hK1 => ?_); simp -implicitDefEqProofs only [Qd, Qb, Qf, OpW, aop, undef, AS.ev, Qc, QO, Qg, Qv, QmZ, ↓reduceIte, Nat.reduceLT, Nat.reduceEqDiff, aBin, QmS, QmT, QmU, QmX, QmV, Qm3, Qna, QY, Qm0, d0]; refine hK1 _ ?_; clear hK1
    (try simp only [Qm1, Qm9]); refine Qy 4 (fun K1 hK1 => ?_); simp -implicitDefEqProofs only [Qd, Qb, Qf, OpW, aop, undef, AS.ev, Qc, QO, Qg, Qv, QmZ, ↓reduceIte, Nat.reduceLT, Nat.reduceEqDiff, aBin, QmS, QmT, QmU, QmX, QmV, Qm3, Qna, QY, Qm0, QmW, d1]; refine hK1 _ ?_; clear hK1
    (try simp only [Qm1, Qm9]); refine Qy 4 (fun K1 hK1 => ?_); simp -implicitDefEqProofs only [Qd, Qb, Qf, OpW, aop, undef, AS.ev, Qc, QO, Qg, Qnf, ↓reduceIte, Nat.reduceLT, Nat.reduceEqDiff, aBin, QmS, QmT, QmU, QmX, QmV, Qm3, Qna, QY, Qm0, QmW, beq_false, d2]; refine hK1 _ ?_; clear hK1
    (try simp only [Qm1, Qm9]); refine Qy 4 (fun K1 hK1 => ?_); simp -implicitDefEqProofs only [Qd, Qb, Qf, OpW, aop, undef, AS.ev, Qc, Qt, Qg, Qnf, ↓reduceIte, Nat.reduceLT, Nat.reduceEqDiff, QmS, QmT, QmX, QmV, Qm3, Qna, beq_false]; refine hK1 _ ?_; clear hK1
    (try simp only [Qm1, Qm9]); refine Qy 4 (fun K1 hK1 => ?_); simp -implicitDefEqProofs only [Qd, Qb, Qf, OpW, aop, undef, AS.ev, Qc, Qt, Qg, Qnf, ↓reduceIte, Nat.reduceLT, Nat.reduceEqDiff, QmS, QmT, QmX, QmV, Qm3, Qna, beq_false]; refine hK1 _ ?_; clear hK1
    (try simp only [Qm1, Qm9])
    simp -implicitDefEqProofs only [Qd, Qb, Qf, OpW, aop, undef, AS.ev, Qc, Qt, Qg, Qnf, ↓reduceIte, Nat.reduceLT, Nat.reduceEqDiff, QmS, QmT, QmX, QmV, beq_false]
    repeat (first | (with_reducible (first | refine Qm ?_ | refine Qj ?_)) | ((with_reducible refine hK _ ?_); clear hK))
    simp only [QN, Qp, Qw, upd, ↓reduceIte, QmY, Qm2]; first | refine Qh (htake _ _) (.keep (.v _)) ⟨by simp only [resB, d0, d1, d2, Bool.or_false, Bool.or_true, Bool.true_or], rfl⟩ | refine Qh List.take_length (.keep (.v _)) ⟨by simp only [resB, d0, d1, d2, Bool.or_false, Bool.or_true, Bool.true_or], rfl⟩
   | false =>
    cases d3 : (s.toList == ({ data := #[105, 115] } : ByteArray).toList) with
    | true =>
     refine Qe Tryz.func107 rfl Tryz.call107 Tryz.ntmps107 (congrArg Array.toList Tryz.results107) (by simp) ?_
     iterate 3 (try (first | (((with_reducible refine Qa fun K E hK hE => ?_)); simp -implicitDefEqProofs only [Qd, Qb, Qf, OpW, aop, AS.ev, Qc, Qt, Nat.reduceLT]) | (with_reducible refine Qi fun K hK => ?_) | ((with_reducible refine hK _ ?_); clear hK)))
     (with_reducible refine Qr fun K E hK hE => ?_)
     (try simp only [Qnt]); refine Qy 4 (fun K1 hK1 => ?_); simp -implicitDefEqProofs only [Qd, Qb, Qf, OpW, aop, undef, AS.ev, Qc, QO, Qg, Qv, QmZ, ↓reduceIte, Nat.reduceLT, Nat.reduceEqDiff, aBin, QmS, QmT, QmU, QmX, QmV, Qm3, Qna, QY, Qm0, d0]; refine hK1 _ ?_; clear hK1
     (try simp only [Qm1, Qm9]); refine Qy 4 (fun K1 hK1 => ?_); simp -implicitDefEqProofs only [Qd, Qb, Qf, OpW, aop, undef, AS.ev, Qc, QO, Qg, Qv, QmZ, ↓reduceIte, Nat.reduceLT, Nat.reduceEqDiff, aBin, QmS, QmT, QmU, QmX, QmV, Qm3, Qna, QY, Qm0, QmW, d1]; refine hK1 _ ?_; clear hK1
     (try simp only [Qm1, Qm9]); refine Qy 4 (fun K1 hK1 => ?_); simp -implicitDefEqProofs only [Qd, Qb, Qf, OpW, aop, undef, AS.ev, Qc, QO, Qg, Qv, QmZ, ↓reduceIte, Nat.reduceLT, Nat.reduceEqDiff, aBin, QmS, QmT, QmU, QmX, QmV, Qm3, Qna, QY, Qm0, QmW, d2]; refine hK1 _ ?_; clear hK1
     (try simp only [Qm1, Qm9]); refine Qy 4 (fun K1 hK1 => ?_); simp -implicitDefEqProofs only [Qd, Qb, Qf, OpW, aop, undef, AS.ev, Qc, QO, Qg, Qnf, ↓reduceIte, Nat.reduceLT, Nat.reduceEqDiff, aBin, QmS, QmT, QmU, QmX, QmV, Qm3, Qna, QY, Qm0, QmW, beq_false, d3]; refine hK1 _ ?_; clear hK1
     (try simp only [Qm1, Qm9]); refine Qy 4 (fun K1 hK1 => ?_); simp -implicitDefEqProofs only [Qd, Qb, Qf, OpW, aop, undef, AS.ev, Qc, Qt, Qg, Qnf, ↓reduceIte, Nat.reduceLT, Nat.reduceEqDiff, QmS, QmT, QmX, QmV, Qm3, Qna, beq_false]; refine hK1 _ ?_; clear hK1
     (try simp only [Qm1, Qm9])
     simp -implicitDefEqProofs only [Qd, Qb, Qf, OpW, aop, undef, AS.ev, Qc, Qt, Qg, Qnf, ↓reduceIte, Nat.reduceLT, Nat.reduceEqDiff, QmS, QmT, QmX, QmV, beq_false]
     repeat (first | (with_reducible (first | refine Qm ?_ | refine Qj ?_)) | ((with_reducible refine hK _ ?_); clear hK))
     simp only [QN, Qp, Qw, upd, ↓reduceIte, QmY, Qm2]; first | refine Qh (htake _ _) (.keep (.v _)) ⟨by simp only [resB, d0, d1, d2, d3, Bool.or_false, Bool.or_true, Bool.true_or], rfl⟩ | refine Qh List.take_length (.keep (.v _)) ⟨by simp only [resB, d0, d1, d2, d3, Bool.or_false, Bool.or_true, Bool.true_or], rfl⟩
    | false =>
     cases d4 : (s.toList == ({ data := #[105, 110, 116] } : ByteArray).toList) with
     | true =>
      refine Qe Tryz.func107 rfl Tryz.call107 Tryz.ntmps107 (congrArg Array.toList Tryz.results107) (by simp) ?_
      iterate 3 (try (first | (((with_reducible refine Qa fun K E hK hE => ?_)); simp -implicitDefEqProofs only [Qd, Qb, Qf, OpW, aop, AS.ev, Qc, Qt, Nat.reduceLT]) | (with_reducible refine Qi fun K hK => ?_) | ((with_reducible refine hK _ ?_); clear hK)))
      (with_reducible refine Qr fun K E hK hE => ?_)
      (try simp only [Qnt]); refine Qy 4 (fun K1 hK1 => ?_); simp -implicitDefEqProofs only [Qd, Qb, Qf, OpW, aop, undef, AS.ev, Qc, QO, Qg, Qv, QmZ, ↓reduceIte, Nat.reduceLT, Nat.reduceEqDiff, aBin, QmS, QmT, QmU, QmX, QmV, Qm3, Qna, QY, Qm0, d0]; refine hK1 _ ?_; clear hK1
      (try simp only [Qm1, Qm9]); refine Qy 4 (fun K1 hK1 => ?_); simp -implicitDefEqProofs only [Qd, Qb, Qf, OpW, aop, undef, AS.ev, Qc, QO, Qg, Qv, QmZ, ↓reduceIte, Nat.reduceLT, Nat.reduceEqDiff, aBin, QmS, QmT, QmU, QmX, QmV, Qm3, Qna, QY, Qm0, QmW, d1]; refine hK1 _ ?_; clear hK1
      (try simp only [Qm1, Qm9]); refine Qy 4 (fun K1 hK1 => ?_); simp -implicitDefEqProofs only [Qd, Qb, Qf, OpW, aop, undef, AS.ev, Qc, QO, Qg, Qv, QmZ, ↓reduceIte, Nat.reduceLT, Nat.reduceEqDiff, aBin, QmS, QmT, QmU, QmX, QmV, Qm3, Qna, QY, Qm0, QmW, d2]; refine hK1 _ ?_; clear hK1
      (try simp only [Qm1, Qm9]); refine Qy 4 (fun K1 hK1 => ?_); simp -implicitDefEqProofs only [Qd, Qb, Qf, OpW, aop, undef, AS.ev, Qc, QO, Qg, Qv, QmZ, ↓reduceIte, Nat.reduceLT, Nat.reduceEqDiff, aBin, QmS, QmT, QmU, QmX, QmV, Qm3, Qna, QY, Qm0, QmW, d3]; refine hK1 _ ?_; clear hK1
      (try simp only [Qm1, Qm9]); refine Qy 4 (fun K1 hK1 => ?_); simp -implicitDefEqProofs only [Qd, Qb, Qf, OpW, aop, undef, AS.ev, Qc, QO, Qg, Qnf, ↓reduceIte, Nat.reduceLT, Nat.reduceEqDiff, aBin, QmS, QmT, QmU, QmX, QmV, Qm3, Qna, QY, Qm0, QmW, beq_false, d4]; refine hK1 _ ?_; clear hK1
      (try simp only [Qm1, Qm9])
      simp -implicitDefEqProofs only [Qd, Qb, Qf, OpW, aop, undef, AS.ev, Qc, Qt, Qg, Qnf, ↓reduceIte, Nat.reduceLT, Nat.reduceEqDiff, QmS, QmT, QmX, QmV, beq_false]
      repeat (first | (with_reducible (first | refine Qm ?_ | refine Qj ?_)) | ((with_reducible refine hK _ ?_); clear hK))
      simp only [QN, Qp, Qw, upd, ↓reduceIte, QmY, Qm2]; first | refine Qh (htake _ _) (.keep (.v _)) ⟨by simp only [resB, d0, d1, d2, d3, d4, Bool.or_false, Bool.or_true, Bool.true_or], rfl⟩ | refine Qh List.take_length (.keep (.v _)) ⟨by simp only [resB, d0, d1, d2, d3, d4, Bool.or_false, Bool.or_true, Bool.true_or], rfl⟩
     | false =>
      cases d5 : (s.toList == ({ data := #[103, 114, 111, 117, 110, 100] } : ByteArray).toList) with
      | true =>
       refine Qe Tryz.func107 rfl Tryz.call107 Tryz.ntmps107 (congrArg Array.toList Tryz.results107) (by simp) ?_
       iterate 3 (try (first | (((with_reducible refine Qa fun K E hK hE => ?_)); simp -implicitDefEqProofs only [Qd, Qb, Qf, OpW, aop, AS.ev, Qc, Qt, Nat.reduceLT]) | (with_reducible refine Qi fun K hK => ?_) | ((with_reducible refine hK _ ?_); clear hK)))
       (with_reducible refine Qr fun K E hK hE => ?_)
       (try simp only [Qnt]); refine Qy 4 (fun K1 hK1 => ?_); simp -implicitDefEqProofs only [Qd, Qb, Qf, OpW, aop, undef, AS.ev, Qc, QO, Qg, Qv, QmZ, ↓reduceIte, Nat.reduceLT, Nat.reduceEqDiff, aBin, QmS, QmT, QmU, QmX, QmV, Qm3, Qna, QY, Qm0, d0]; refine hK1 _ ?_; clear hK1
       (try simp only [Qm1, Qm9]); refine Qy 4 (fun K1 hK1 => ?_); simp -implicitDefEqProofs only [Qd, Qb, Qf, OpW, aop, undef, AS.ev, Qc, QO, Qg, Qv, QmZ, ↓reduceIte, Nat.reduceLT, Nat.reduceEqDiff, aBin, QmS, QmT, QmU, QmX, QmV, Qm3, Qna, QY, Qm0, QmW, d1]; refine hK1 _ ?_; clear hK1
       (try simp only [Qm1, Qm9]); refine Qy 4 (fun K1 hK1 => ?_); simp -implicitDefEqProofs only [Qd, Qb, Qf, OpW, aop, undef, AS.ev, Qc, QO, Qg, Qv, QmZ, ↓reduceIte, Nat.reduceLT, Nat.reduceEqDiff, aBin, QmS, QmT, QmU, QmX, QmV, Qm3, Qna, QY, Qm0, QmW, d2]; refine hK1 _ ?_; clear hK1
       (try simp only [Qm1, Qm9]); refine Qy 4 (fun K1 hK1 => ?_); simp -implicitDefEqProofs only [Qd, Qb, Qf, OpW, aop, undef, AS.ev, Qc, QO, Qg, Qv, QmZ, ↓reduceIte, Nat.reduceLT, Nat.reduceEqDiff, aBin, QmS, QmT, QmU, QmX, QmV, Qm3, Qna, QY, Qm0, QmW, d3]; refine hK1 _ ?_; clear hK1
       (try simp only [Qm1, Qm9]); refine Qy 4 (fun K1 hK1 => ?_); simp -implicitDefEqProofs only [Qd, Qb, Qf, OpW, aop, undef, AS.ev, Qc, QO, Qg, Qv, QmZ, ↓reduceIte, Nat.reduceLT, Nat.reduceEqDiff, aBin, QmS, QmT, QmU, QmX, QmV, Qm3, Qna, QY, Qm0, QmW, d4]; refine hK1 _ ?_; clear hK1
       (try simp only [Qm1, Qm9])
       simp -implicitDefEqProofs only [Qd, Qb, Qf, OpW, aop, AS.ev, Qc, QO, Qg, ↓reduceIte, Nat.reduceLT, Nat.reduceEqDiff, aBin, QmS, QmT, QmU, QmX, QmV, QY, Qm0, QmW, d5]
       repeat (first | (with_reducible (first | refine Qm ?_ | refine Qj ?_)) | ((with_reducible refine hK _ ?_); clear hK))
       simp only [QN, Qp, Qw, upd, ↓reduceIte, QmY, Qm2]; first | refine Qh (htake _ _) (.keep (.v _)) ⟨by simp only [resB, d0, d1, d2, d3, d4, d5, Bool.or_false, Bool.or_true], rfl⟩ | refine Qh List.take_length (.keep (.v _)) ⟨by simp only [resB, d0, d1, d2, d3, d4, d5, Bool.or_false, Bool.or_true], rfl⟩
      | false =>
       refine Qe Tryz.func107 rfl Tryz.call107 Tryz.ntmps107 (congrArg Array.toList Tryz.results107) (by simp) ?_
       iterate 3 (try (first | (((with_reducible refine Qa fun K E hK hE => ?_)); simp -implicitDefEqProofs only [Qd, Qb, Qf, OpW, aop, AS.ev, Qc, Qt, Nat.reduceLT]) | (with_reducible refine Qi fun K hK => ?_) | ((with_reducible refine hK _ ?_); clear hK)))
       (with_reducible refine Qr fun K E hK hE => ?_)
       (try simp only [Qnt]); refine Qy 4 (fun K1 hK1 => ?_); simp -implicitDefEqProofs only [Qd, Qb, Qf, OpW, aop, undef, AS.ev, Qc, QO, Qg, Qv, QmZ, ↓reduceIte, Nat.reduceLT, Nat.reduceEqDiff, aBin, QmS, QmT, QmU, QmX, QmV, Qm3, Qna, QY, Qm0, d0]; refine hK1 _ ?_; clear hK1
       (try simp only [Qm1, Qm9]); refine Qy 4 (fun K1 hK1 => ?_); simp -implicitDefEqProofs only [Qd, Qb, Qf, OpW, aop, undef, AS.ev, Qc, QO, Qg, Qv, QmZ, ↓reduceIte, Nat.reduceLT, Nat.reduceEqDiff, aBin, QmS, QmT, QmU, QmX, QmV, Qm3, Qna, QY, Qm0, QmW, d1]; refine hK1 _ ?_; clear hK1
       (try simp only [Qm1, Qm9]); refine Qy 4 (fun K1 hK1 => ?_); simp -implicitDefEqProofs only [Qd, Qb, Qf, OpW, aop, undef, AS.ev, Qc, QO, Qg, Qv, QmZ, ↓reduceIte, Nat.reduceLT, Nat.reduceEqDiff, aBin, QmS, QmT, QmU, QmX, QmV, Qm3, Qna, QY, Qm0, QmW, d2]; refine hK1 _ ?_; clear hK1
       (try simp only [Qm1, Qm9]); refine Qy 4 (fun K1 hK1 => ?_); simp -implicitDefEqProofs only [Qd, Qb, Qf, OpW, aop, undef, AS.ev, Qc, QO, Qg, Qv, QmZ, ↓reduceIte, Nat.reduceLT, Nat.reduceEqDiff, aBin, QmS, QmT, QmU, QmX, QmV, Qm3, Qna, QY, Qm0, QmW, d3]; refine hK1 _ ?_; clear hK1
       (try simp only [Qm1, Qm9]); refine Qy 4 (fun K1 hK1 => ?_); simp -implicitDefEqProofs only [Qd, Qb, Qf, OpW, aop, undef, AS.ev, Qc, QO, Qg, Qv, QmZ, ↓reduceIte, Nat.reduceLT, Nat.reduceEqDiff, aBin, QmS, QmT, QmU, QmX, QmV, Qm3, Qna, QY, Qm0, QmW, d4]; refine hK1 _ ?_; clear hK1
       (try simp only [Qm1, Qm9])
       simp -implicitDefEqProofs only [Qd, Qb, Qf, OpW, aop, AS.ev, Qc, QO, Qg, ↓reduceIte, Nat.reduceLT, Nat.reduceEqDiff, aBin, QmS, QmT, QmU, QmX, QmV, QY, Qm0, QmW, d5]
       repeat (first | (with_reducible (first | refine Qm ?_ | refine Qj ?_)) | ((with_reducible refine hK _ ?_); clear hK))
       simp only [QN, Qp, Qw, upd, ↓reduceIte, QmY, Qm2]; first | refine Qh (htake _ _) (.keep (.v _)) ⟨by simp only [resB, d0, d1, d2, d3, d4, d5, Bool.or_false], rfl⟩ | refine Qh List.take_length (.keep (.v _)) ⟨by simp only [resB, d0, d1, d2, d3, d4, d5, Bool.or_false], rfl⟩
end Go.Proofs.YtehjodmnajgdgaaGreatDoor.Ab
set_option maxRecDepth 4000
namespace Go.Proofs.YtehjodmnajgdgaaGreatDoor.Ab
open Go.Proofs
theorem QgY (s : ByteArray) (k : Nat) : byteAt (s.extract 1 s.size) k = byteAt s (k + 1) := by
  unfold byteAt
  rw [Lib.extract_data, List.take_of_length_le (by rw [List.length_drop, ← Lib.size_eq]; omega), List.getD_eq_getElem?_getD, List.getD_eq_getElem?_getD, List.getElem?_drop, Nat.add_comm 1 k]
theorem Qgj (s : ByteArray) : (s.extract 1 s.size).size = s.size - 1 := by
  rw [Lib.size_eq, Lib.extract_data, List.length_take, List.length_drop, ← Lib.size_eq]; omega
def fol (c : Int) : Prop := ofN c ≠ 0
instance (c : Int) : Decidable (fol c) := by unfold fol; infer_instance
theorem QaV (c : Int) : fol c ↔ (97 ≤ c ∧ c ≤ 122) ∨ (65 ≤ c ∧ c ≤ 90) ∨ c = 95 ∨ (48 ≤ c ∧ c ≤ 57) := by
  unfold fol ofN
  split
  · constructor
    · intro _; omega
    · intro _; decide
  · split
    · constructor
      · intro _; omega
      · intro _; decide
    · split
      · constructor
        · intro _; omega
        · intro _; decide
      · constructor
        · intro h; exact absurd rfl h
        · intro _; omega
def Fol (s : ByteArray) : Prop := ∀ k, k < s.size → fol (byteAt s k)
instance (s : ByteArray) : Decidable (Fol s) := by unfold Fol; infer_instance
theorem QfS (c : Int) : ofN c = 0 ∨ ofN c = 1 ∨ ofN c = 2 ∨ ofN c = 4 := by
  unfold ofN
  repeat' split
  all_goals simp
theorem Qjr (r : Int) (hr : 0 ≤ r ∧ r < 2147483648) : Pure Tryz.prog 128 [.v (.int .i32 r)] (.b (decide (122 < r ∨ ¬ fol r))) := by
  intro h
  by_cases h1 : r > 122
  · refine Qe Tryz.func128 rfl Tryz.call128 Tryz.ntmps128 (congrArg Array.toList Tryz.results128) (by simp) ?_
    repeat (first | (((with_reducible refine Qa fun K E hK hE => ?_)); simp -implicitDefEqProofs only [Qd, Qb, Qf, OpW, aop, undef, AS.ev, Qc, Qn, Qt, Qg, Qv, QmZ, Qnf, ↓reduceIte, Nat.reduceLT, Nat.reduceEqDiff, aBin, QmS, QmT, QmU, QmX, QmV, Xr, Qno, beq_false, h1]) | (with_reducible refine Qm ?_) | ((with_reducible refine hK _ ?_); clear hK))
    simp only [QN, Qp, Qw, upd, ↓reduceIte, QmY, Qm2]; first | refine Qh (htake _ _) (.keep (.v _)) ⟨by rw [decide_eq_true (.inl h1)], rfl⟩ | refine Qh List.take_length (.keep (.v _)) ⟨by rw [decide_eq_true (.inl h1)], rfl⟩
  · have hcv := Qg1 Tryz.prog 21 5 (ts := .int .i32) (kd := .u8) (by kernel_rfl) (by kernel_rfl) .i32
    have w0 : IntKind.u8.wrap r = r := by simp [IntKind.wrap, IntKind.bits, IntKind.signed]; omega
    have c := Qjw r (by omega)
    have hf : decide (122 < r ∨ ¬ fol r) = (ofN r == 0) := by
      by_cases h0 : ofN r = 0
      · rw [h0, decide_eq_true (.inr fun h => h h0)]; rfl
      · rw [decide_eq_false (by rintro (h | h); exact h1 h; exact h h0)]; simp [h0]
    have ha : ∀ xo yo a, a = 0 ∨ a = 1 ∨ a = 2 ∨ a = 4 → pv Tryz.prog (do eqGuard .and 117 xo yo (.int .u8 a) (.int .u8 7); binOp .and 117 (.int .u8 a) (.int .u8 7)) = some (.int .u8 a) := by
      rintro xo yo a (rfl | rfl | rfl | rfl) <;> rfl
    have ha' := fun xo yo => ha xo yo (ofN r) (QfS r)
    refine Qe Tryz.func128 rfl Tryz.call128 Tryz.ntmps128 (congrArg Array.toList Tryz.results128) (by simp) ?_
    repeat (first | ((first | (with_reducible (first | refine Qa fun K E hK hE => ?_ | refine Qz c ?_))); simp -implicitDefEqProofs only [Qd, Qb, Qf, OpW, QQ, aop, undef, AS.ev, Qc, Qn, Qt, Qg, Qv, QmZ, ↓reduceIte, Nat.reduceLT, Nat.reduceEqDiff, aBin, QmS, QmT, QmU, QmX, QmV, Qm7, Qnb, QR, Xr, Qnp, Qm0, QmW, h1, hcv, w0, ha']) | (with_reducible refine Qm ?_) | ((with_reducible refine hK _ ?_); clear hK))
    simp only [QN, Qp, Qw, upd, ↓reduceIte, QmY, Qm2]; first | refine Qh (htake _ _) (.keep (.v _)) ⟨by rw [hf], rfl⟩ | refine Qh List.take_length (.keep (.v _)) ⟨by rw [hf], rfl⟩
def ixR (s : ByteArray) : Nat → Nat → Int
  | _, 0 => -1
  | p, n + 1 => if fol (byteAt s p) then ixR s (p + 1) n else p
theorem Qjb (s : ByteArray) : ∀ (n p : Nat), ixR s p n < 0 ↔ ∀ k, p ≤ k → k < p + n → fol (byteAt s k)
  | 0, p => by simp only [ixR]; exact ⟨fun _ k h1 h2 => by omega, fun _ => by omega⟩
  | n + 1, p => by
    simp only [ixR]
    split
    · rename_i h
      rw [Qjb s n (p + 1)]
      constructor
      · intro h' k h1 h2
        by_cases hk : k = p
        · rw [hk]; exact h
        · exact h' k (by omega) (by omega)
      · intro h' k h1 h2; exact h' k (by omega) (by omega)
    · rename_i h
      constructor
      · intro h'; omega
      · intro h'; exact absurd (h' p (Nat.le_refl _) (by omega)) h
theorem Qj0 (s : ByteArray) (i : Nat) : (Utf8.decode s i).1 < 2147483648 := by
  unfold Utf8.decode
  have hr : Utf8.runeError < 2147483648 := by decide
  have hb : ∀ k, (s.get! k).toNat < 256 := fun k => (s.get! k).toNat_lt
  have b0 := hb (i + 0)
  have b1 := hb (i + 1)
  have b2 := hb (i + 2)
  have b3 := hb (i + 3)
  simp only
  repeat' split
  all_goals first | exact hr | (simp only; omega)
theorem Qd9 (b : ByteArray) (hs : b.size ≤ maxLen) : Pure Tryz.prog 144 [.v (.string b), .fn (.func 128) [] [], .b true] (.i (ixR b 0 b.size)) := by
  intro h
  have hbe := fun xo yo a b => Qlx Tryz.prog 4 xo yo (by kernel_rfl) a b
  refine Qe Tryz.func144 rfl Tryz.call144 Tryz.ntmps144 (congrArg Array.toList Tryz.results144) (by simp) ?_
  repeat (first | (((with_reducible refine Qa fun K E hK hE => ?_)); simp -implicitDefEqProofs only [Qd, Qb, Qf, OpW, aop, undef, AS.ev, Qc, Qn, Qg, Qv, QmZ, ↓reduceIte, Nat.reduceLT, Nat.reduceEqDiff, un9]) | (with_reducible (first | refine Qi fun K hK => ?_ | refine Qq ?_)) | ((with_reducible refine hK _ ?_); clear hK))
  obtain ⟨I, hI⟩ : ∃ I : Nat → AS → Prop, I = fun m' s => ∃ (p : Nat), m' = b.size - p ∧ p ≤ b.size ∧ ixR b 0 b.size = ixR b p (b.size - p) ∧ s.tm 1 = .fn (.func 128) [] [] ∧ s.tm 2 = .b true ∧ s.tm 10 = .mp h.length ∧ s.h = h ++ [.iter b p] := ⟨_, rfl⟩; refine XJ I ?_ (m := b.size) ?_
  · intro m' s hs; rw [hI] at hs; obtain ⟨tm, hp⟩ := s; dsimp only at hs; obtain ⟨p, rfl, hp', he, t1, t2, t10, rfl⟩ := hs
    by_cases hlt : p < b.size
    · have c := Qjr ((Utf8.decode b p).1 : Int) ⟨by omega, by have := Qj0 b p; omega⟩
      obtain ⟨n, hn⟩ : ∃ n, b.size - p = n + 1 := ⟨b.size - p - 1, by omega⟩
      rw [hn, ixR] at he
      by_cases hf : fol (byteAt b p)
      · rw [if_pos hf] at he
        have hb : byteAt b p < 128 := by have := (QaV _).1 hf; omega
        obtain ⟨d1, d2⟩ := decode_ascii hb
        have hc : decide (122 < ((Utf8.decode b p).1 : Int) ∨ ¬ fol ((Utf8.decode b p).1 : Int)) = false := by
          rw [d1]
          refine decide_eq_false ?_
          rintro (h1 | h1)
          · have := (QaV _).1 hf; omega
          · exact h1 hf
        rw [hc] at c
        repeat (first | ((first | (with_reducible (first | refine Qa fun K E hK hE => ?_ | refine Qz c ?_))); simp -implicitDefEqProofs only [Qd, Qb, Qf, OpW, QQ, aop, AS.ev, Qc, Qg, ↓reduceIte, Nat.reduceLT, Nat.reduceEqDiff, aBin, Xs, Q0, Ym, QmS, QmT, Qnm, QmU, Qm7, Qnb, goInt, beq_true, QaG, t1, t2, t10, hlt, d2, hbe]) | (with_reducible (first | refine Qi fun K hK => ?_ | refine Qq ?_ | refine QD ?_ | refine Qj ?_ | refine QF ?_)) | ((with_reducible refine hK _ ?_); clear hK) | (refine Qk rfl ?_; simp only [↓reduceIte, QmW]))
        refine Yo.mk (m' := b.size - (p + 1)) (by omega) ?_
        rw [hI]
        exact ⟨p + 1, rfl, hlt, by rw [he, show n = b.size - (p + 1) by omega], t1, t2, t10, rfl⟩
      · rw [if_neg hf] at he
        have hc : decide (122 < ((Utf8.decode b p).1 : Int) ∨ ¬ fol ((Utf8.decode b p).1 : Int)) = true := by
          refine decide_eq_true ?_
          by_cases hb : byteAt b p < 128
          · right; rw [(decode_ascii hb).1]; exact hf
          · left; have := Qiv (s := b) (i := p) (by omega); omega
        rw [hc] at c
        repeat (first | ((first | (with_reducible (first | refine Qa fun K E hK hE => ?_ | refine Qz c ?_))); simp -implicitDefEqProofs only [Qd, Qb, Qf, OpW, QQ, aop, AS.ev, Qc, Qg, ↓reduceIte, Nat.reduceLT, Nat.reduceEqDiff, aBin, Xs, Q0, Ym, QmS, QmT, Qnm, QmU, Qm7, Qnb, goInt, Qm0, QaG, t1, t2, t10, hlt, hbe]) | (with_reducible (first | refine Qi fun K hK => ?_ | refine Qq ?_ | refine Qm ?_ | refine QD ?_ | refine Qj ?_ | refine QA ?_ | refine QJ ?_)) | ((with_reducible refine hK _ ?_); clear hK) | (refine Qk rfl ?_; simp only [↓reduceIte]))
        simp only [QN, Qp, Qw, upd, ↓reduceIte, QmY, Qm2]; first | refine Qh (htake _ _) (.keep (.v _)) ⟨by rw [he], rfl⟩ | refine Qh List.take_length (.keep (.v _)) ⟨by rw [he], rfl⟩
    · rw [show b.size - p = 0 by omega, ixR] at he
      repeat (first | (((with_reducible refine Qa fun K E hK hE => ?_)); simp -implicitDefEqProofs only [Qd, Qb, Qf, OpW, aop, AS.ev, Qc, Qn, Qg, ↓reduceIte, Nat.reduceLT, Xs, Q0, QmS, QmU, QaG, t10, hlt]) | (with_reducible (first | refine Qi fun K hK => ?_ | refine Qm ?_ | refine Xb ?_ | refine Qj ?_ | refine Q5 ?_ | refine Q4 ?_)) | ((with_reducible refine hK _ ?_); clear hK) | (clear hK; (with_reducible refine hK _ ?_); clear hK) | (refine Qk rfl ?_; simp only [↓reduceIte, QmW]))
      simp only [QN, Qp, Qw, upd, ↓reduceIte, QmY, Qm2]; first | refine Qh (htake _ _) (.keep (.v _)) ⟨by rw [he], rfl⟩ | refine Qh List.take_length (.keep (.v _)) ⟨by rw [he], rfl⟩
  · rw [hI]
    exact ⟨0, by omega, Nat.zero_le _, rfl, rfl, rfl, rfl, rfl⟩
theorem Qcx (b : ByteArray) (hs : b.size ≤ maxLen) : Pure Tryz.prog 127 [.v (.string b), .fn (.func 128) [] []] (.i (ixR b 0 b.size)) := by
  intro h
  have c := Qd9 b hs
  refine Qe Tryz.func127 rfl Tryz.call127 Tryz.ntmps127 (congrArg Array.toList Tryz.results127) (by simp) ?_
  repeat (first | ((first | (with_reducible (first | refine Qa fun K E hK hE => ?_ | refine Qz c ?_))); simp -implicitDefEqProofs only [Qd, Qb, Qf, OpW, QQ, aop, undef, AS.ev, Qc, Qn, Qt, Qg, Qv, QmZ, Qni, ↓reduceIte, Nat.reduceLT, Nat.reduceEqDiff, Qm7, Qnb]) | (with_reducible refine Qm ?_) | ((with_reducible refine hK _ ?_); clear hK))
  simp only [QN, Qp, Qw, upd, ↓reduceIte, QmY, Qm2]; first | refine Qh (htake _ _) (.keep (.v _)) ⟨rfl, rfl⟩ | refine Qh List.take_length (.keep (.v _)) ⟨rfl, rfl⟩
def Qb2 (first : Int) (s : ByteArray) : Prop := 1 ≤ s.size ∧ s.size ≤ 40 ∧ ofN (byteAt s 0) = first ∧ Fol s
instance (first : Int) (s : ByteArray) : Decidable (Qb2 first s) := by unfold Qb2; infer_instance
theorem Qcw (s : ByteArray) : (s.toList == ({ data := #[] } : ByteArray).toList) = decide (s.size = 0) := by
  rw [Lib.toList_data, Lib.toList_data, Lib.size_eq]
  cases s.data.toList <;> simp
theorem Qkl (first : Int) (hf : first = 1 ∨ first = 2) (s : ByteArray) : Pure Tryz.prog 113 [.v (.string s), .v (.int .u8 first)] (.b (decide (Qb2 first s))) := by
  intro h
  have hsl := fun b => Yf Tryz.prog 9 3 (by kernel_rfl) b
  by_cases n0 : s.size = 0
  · have d0 : (s.toList == ({ data := #[] } : ByteArray).toList) = true := by rw [Qcw, decide_eq_true n0]
    refine Qe Tryz.func113 rfl Tryz.call113 Tryz.ntmps113 (congrArg Array.toList Tryz.results113) (by simp) ?_
    repeat (first | (((with_reducible refine Qa fun K E hK hE => ?_)); simp -implicitDefEqProofs only [Qd, Qb, Qf, OpW, aop, undef, AS.ev, Qc, Qt, QO, Qg, Qv, QmZ, Qnf, ↓reduceIte, Nat.reduceLT, Nat.reduceEqDiff, aBin, QmS, QmT, QmU, QmX, QmV, QY, beq_false, d0]) | (with_reducible (first | refine Qi fun K hK => ?_ | refine Qm ?_ | refine QA ?_)) | ((with_reducible refine hK _ ?_); clear hK) | (refine Qk rfl ?_; simp only [↓reduceIte]))
    simp only [QN, Qp, Qw, upd, ↓reduceIte, QmY, Qm2]; first | refine Qh (htake _ _) (.keep (.v _)) ⟨by rw [decide_eq_false (fun h => by have := h.1; omega)], rfl⟩ | refine Qh List.take_length (.keep (.v _)) ⟨by rw [decide_eq_false (fun h => by have := h.1; omega)], rfl⟩
  · have d0 : (s.toList == ({ data := #[] } : ByteArray).toList) = false := by rw [Qcw, decide_eq_false n0]
    by_cases n1 : s.size ≤ 40
    · have m1 : ¬ ((s.size : Int) > 40) := by omega
      have hix := Zp Tryz.prog 9 (by kernel_rfl) s (by omega)
      have hr := Qin s 0
      have c := Qjw (byteAt s 0) hr
      have ha : ∀ xo yo a, a = 0 ∨ a = 1 ∨ a = 2 ∨ a = 4 → pv Tryz.prog (do eqGuard .and 117 xo yo (.int .u8 a) (.int .u8 first); binOp .and 117 (.int .u8 a) (.int .u8 first)) = some (.int .u8 (if a = first then first else 0)) := by
        rcases hf with rfl | rfl <;> rintro xo yo a (rfl | rfl | rfl | rfl) <;> rfl
      have ha' := fun xo yo => ha xo yo (ofN (byteAt s 0)) (QfS _)
      by_cases hc : ofN (byteAt s 0) = first
      · have f0 : (first == 0) = false := by simp; omega
        have hsf := Qc9 Tryz.prog 9 (by kernel_rfl) s 1 (by omega)
        have hsf' : pv Tryz.prog (Instr.sliceAt 9 (.string s) (some (.int .i64 1)) none none) = some (.string (s.extract 1 s.size)) := hsf
        have ci := Qcx (s.extract 1 s.size) (by rw [Qgj]; simp only [maxLen]; omega)
        have hi : decide (ixR (s.extract 1 s.size) 0 (s.extract 1 s.size).size < 0) = decide (Qb2 first s) := by
          rw [decide_eq_decide, Qjb]
          simp only [Qgj, QgY, Qm4]
          constructor
          · intro h1
            refine ⟨by omega, n1, hc, fun k hk => ?_⟩
            cases k with
            | zero => show ofN _ ≠ 0; rw [hc]; omega
            | succ k => exact h1 k (Nat.zero_le _) (by omega)
          · rintro ⟨_, _, _, h4⟩ k _ hk
            exact h4 (k + 1) (by omega)
        rw [if_pos hc] at ha'
        refine Qe Tryz.func113 rfl Tryz.call113 Tryz.ntmps113 (congrArg Array.toList Tryz.results113) (by simp) ?_
        repeat (first | ((first | (with_reducible (first | refine Qa fun K E hK hE => ?_ | refine Qz c ?_ | refine Qz ci ?_))); simp -implicitDefEqProofs only [Qd, Qb, Qf, OpW, QQ, aop, undef, AS.ev, Qc, Qn, Qt, QO, Qg, Qv, QmZ, Qni, ↓reduceIte, Nat.reduceLT, Nat.reduceEqDiff, aBin, YF, aLen, QmS, QmT, QmU, Qnx, QmX, QmV, Qm7, Qnb, QR, Q3, Xr, QY, goInt, Qnp, Qm0, QmW, ei9, d0, hsl, m1, hix, ha', f0, hsf']) | (with_reducible (first | refine Qi fun K hK => ?_ | refine Qm ?_ | refine QD ?_ | refine Qj ?_)) | ((with_reducible refine hK _ ?_); clear hK) | (refine Qk rfl ?_; simp only [↓reduceIte, QmW]))
        simp only [QN, Qp, Qw, upd, ↓reduceIte, QmY, Qm2]; first | refine Qh (htake _ _) (.keep (.v _)) ⟨by rw [hi], rfl⟩ | refine Qh List.take_length (.keep (.v _)) ⟨by rw [hi], rfl⟩
      · rw [if_neg hc] at ha'
        refine Qe Tryz.func113 rfl Tryz.call113 Tryz.ntmps113 (congrArg Array.toList Tryz.results113) (by simp) ?_
        repeat (first | ((first | (with_reducible (first | refine Qa fun K E hK hE => ?_ | refine Qz c ?_))); simp -implicitDefEqProofs only [Qd, Qb, Qf, OpW, QQ, aop, undef, AS.ev, Qc, Qn, Qt, QO, Qg, Qv, QmZ, Qni, ↓reduceIte, Nat.reduceLT, Nat.reduceEqDiff, aBin, aLen, QmS, QmT, QmU, QmX, QmV, Qm7, Qnb, QR, Xr, QY, goInt, Qnp, Qm0, QmW, d0, hsl, m1, hix, ha']) | (with_reducible (first | refine Qi fun K hK => ?_ | refine Qm ?_ | refine QA ?_)) | ((with_reducible refine hK _ ?_); clear hK) | (refine Qk rfl ?_; simp only [↓reduceIte]))
        simp only [QN, Qp, Qw, upd, ↓reduceIte, QmY, Qm2]; first | refine Qh (htake _ _) (.keep (.v _)) ⟨by rw [decide_eq_false (fun h => hc h.2.2.1)], rfl⟩ | refine Qh List.take_length (.keep (.v _)) ⟨by rw [decide_eq_false (fun h => hc h.2.2.1)], rfl⟩
    · have m1 : ((s.size : Int) > 40) := by omega
      refine Qe Tryz.func113 rfl Tryz.call113 Tryz.ntmps113 (congrArg Array.toList Tryz.results113) (by simp) ?_
      repeat (first | (((with_reducible refine Qa fun K E hK hE => ?_)); simp -implicitDefEqProofs only [Qd, Qb, Qf, OpW, aop, undef, AS.ev, Qc, Qn, Qt, QO, Qg, Qv, QmZ, Qnf, ↓reduceIte, Nat.reduceLT, Nat.reduceEqDiff, aBin, aLen, QmS, QmT, QmU, QmX, QmV, Xr, QY, goInt, Qno, Qm0, QmW, beq_false, d0, hsl, m1]) | (with_reducible (first | refine Qi fun K hK => ?_ | refine Qm ?_ | refine QA ?_)) | ((with_reducible refine hK _ ?_); clear hK) | (refine Qk rfl ?_; simp only [↓reduceIte]))
      simp only [QN, Qp, Qw, upd, ↓reduceIte, QmY, Qm2]; first | refine Qh (htake _ _) (.keep (.v _)) ⟨by rw [decide_eq_false (fun h => by have := h.2.1; omega)], rfl⟩ | refine Qh List.take_length (.keep (.v _)) ⟨by rw [decide_eq_false (fun h => by have := h.2.1; omega)], rfl⟩
end Go.Proofs.YtehjodmnajgdgaaGreatDoor.Ab
namespace Go.Proofs
open Go.Shelf
def Tryz.QmD : Go.Shelf.Ren := ⟨fun | 161 => 115 | 231 => 129 | 227 => 130 | 233 => 131 | 235 => 132 | 228 => 145 | 197 => 146 | 151 => 147 | 260 => 161 | 152 => 162 | 137 => 172 | 119 => 173 | 224 => 168 | 225 => 167 | 217 => 166 | 266 => 176 | n => n, fun | 9 => 9 | 4 => 4 | 3 => 3 | 5 => 5 | 117 => 130 | 116 => 129 | 0 => 0 | 124 => 133 | 105 => 142 | 21 => 21 | 119 => 165 | 46 => 155 | 139 => 168 | 138 => 167 | n => n, fun | 3 => 4 | 4 => 5 | n => n⟩
theorem Tryz.lays161 : Go.Proofs.Lays.n161 Tryz.prog Tryz.QmD := {
  mixed := by kernel_rfl
  f119 := Tryz.func173.trans (congrArg some (by kernel_rfl))
  f137 := Tryz.func172.trans (congrArg some (by kernel_rfl))
  f151 := Tryz.func147.trans (congrArg some (by kernel_rfl))
  f152 := Tryz.func162.trans (congrArg some (by kernel_rfl))
  f161 := Tryz.func115.trans (congrArg some (by kernel_rfl))
  f197 := Tryz.func146.trans (congrArg some (by kernel_rfl))
  f217 := Tryz.func166.trans (congrArg some (by kernel_rfl))
  f224 := Tryz.func168.trans (congrArg some (by kernel_rfl))
  f225 := Tryz.func167.trans (congrArg some (by kernel_rfl))
  f227 := Tryz.func130.trans (congrArg some (by kernel_rfl))
  f228 := Tryz.func145.trans (congrArg some (by kernel_rfl))
  f231 := Tryz.func129.trans (congrArg some (by kernel_rfl))
  f233 := Tryz.func131.trans (congrArg some (by kernel_rfl))
  f235 := Tryz.func132.trans (congrArg some (by kernel_rfl))
  f260 := Tryz.func161.trans (congrArg some (by kernel_rfl))
  f266 := Tryz.func176.trans (congrArg some (by kernel_rfl))
  t0 := Tryz.underlying0
  a0 := Tryz.isAgg0
  z0 := Tryz.sizeOf0
  v0 := Tryz.zeroValue0
  t3 := Tryz.underlying3
  a3 := Tryz.isAgg3
  z3 := Tryz.sizeOf3
  v3 := Tryz.zeroValue3
  t4 := Tryz.underlying4
  a4 := Tryz.isAgg4
  z4 := Tryz.sizeOf4
  v4 := Tryz.zeroValue4
  t5 := Tryz.underlying5
  a5 := Tryz.isAgg5
  z5 := Tryz.sizeOf5
  v5 := Tryz.zeroValue5
  t9 := Tryz.underlying9
  a9 := Tryz.isAgg9
  z9 := Tryz.sizeOf9
  v9 := Tryz.zeroValue9
  t21 := Tryz.underlying21
  a21 := Tryz.isAgg21
  z21 := Tryz.sizeOf21
  v21 := Tryz.zeroValue21
  t46 := Tryz.underlying155
  a46 := Tryz.isAgg155
  z46 := Tryz.sizeOf155
  v46 := Tryz.zeroValue155
  t105 := Tryz.underlying142
  a105 := Tryz.isAgg142
  z105 := Tryz.sizeOf142
  v105 := Tryz.zeroValue142
  t116 := Tryz.underlying129
  a116 := Tryz.isAgg129
  z116 := Tryz.sizeOf129
  t117 := Tryz.underlying130
  a117 := Tryz.isAgg130
  z117 := Tryz.sizeOf130
  v117 := Tryz.zeroValue130
  t119 := Tryz.underlying165
  a119 := Tryz.isAgg165
  z119 := Tryz.sizeOf165
  t124 := Tryz.underlying133
  a124 := Tryz.isAgg133
  z124 := Tryz.sizeOf133
  v124 := Tryz.zeroValue133
  t138 := Tryz.underlying167
  a138 := Tryz.isAgg167
  z138 := Tryz.sizeOf167
  v138 := Tryz.zeroValue167
  t139 := Tryz.underlying168
  a139 := Tryz.isAgg168
  z139 := Tryz.sizeOf168
  v139 := Tryz.zeroValue168
  g3 := by kernel_rfl
  g4 := by kernel_rfl }
theorem Tryz.strings_TrimLeft_one (s : ByteArray) (c : UInt8) (hc : c.toNat < 128) (w : World) :
    Calls Tryz.prog 115 #[.string s, .string ⟨#[c]⟩] w fun e w' => e = .returned (.string ⟨(Lib.trimLeftB s.data.toList c).toArray⟩) ∧ w' = w := Any.strings_TrimLeft_one Tryz.lays161 s c hc w
def Tryz.QmB : Go.Shelf.Ren := ⟨fun | 171 => 72 | 243 => 111 | 246 => 125 | 283 => 140 | 284 => 141 | 285 => 142 | 286 => 143 | 129 => 157 | 317 => 156 | 318 => 158 | 319 => 159 | 320 => 160 | 337 => 170 | 338 => 171 | n => n, fun | 3 => 3 | 9 => 9 | 2 => 2 | 4 => 4 | 171 => 135 | 0 => 0 | 53 => 136 | 37 => 67 | 5 => 5 | 173 => 139 | 212 => 152 | 51 => 153 | 20 => 20 | 213 => 154 | 46 => 155 | 232 => 175 | 233 => 176 | n => n, fun | 17 => 0 | 18 => 6 | 19 => 7 | n => n⟩
theorem Tryz.laysM171 : Go.Proofs.LaysM.n171 Tryz.prog Tryz.QmB := {
  mixed := by kernel_rfl
  f129 := Tryz.func157.trans (congrArg some (by kernel_rfl))
  f171 := Tryz.func72.trans (congrArg some (by kernel_rfl))
  f243 := Tryz.func111.trans (congrArg some (by kernel_rfl))
  f246 := Tryz.func125.trans (congrArg some (by kernel_rfl))
  f283 := Tryz.func140.trans (congrArg some (by kernel_rfl))
  f284 := Tryz.func141.trans (congrArg some (by kernel_rfl))
  f285 := Tryz.func142.trans (congrArg some (by kernel_rfl))
  f286 := Tryz.func143.trans (congrArg some (by kernel_rfl))
  f317 := Tryz.func156.trans (congrArg some (by kernel_rfl))
  f318 := Tryz.func158.trans (congrArg some (by kernel_rfl))
  f319 := Tryz.func159.trans (congrArg some (by kernel_rfl))
  f320 := Tryz.func160.trans (congrArg some (by kernel_rfl))
  f337 := Tryz.func170.trans (congrArg some (by kernel_rfl))
  f338 := Tryz.func171.trans (congrArg some (by kernel_rfl))
  t0 := Tryz.underlying0
  a0 := Tryz.isAgg0
  z0 := Tryz.sizeOf0
  v0 := Tryz.zeroValue0
  t2 := Tryz.underlying2
  a2 := Tryz.isAgg2
  z2 := Tryz.sizeOf2
  v2 := Tryz.zeroValue2
  t3 := Tryz.underlying3
  a3 := Tryz.isAgg3
  z3 := Tryz.sizeOf3
  v3 := Tryz.zeroValue3
  t4 := Tryz.underlying4
  a4 := Tryz.isAgg4
  z4 := Tryz.sizeOf4
  v4 := Tryz.zeroValue4
  t5 := Tryz.underlying5
  a5 := Tryz.isAgg5
  z5 := Tryz.sizeOf5
  v5 := Tryz.zeroValue5
  t9 := Tryz.underlying9
  a9 := Tryz.isAgg9
  z9 := Tryz.sizeOf9
  v9 := Tryz.zeroValue9
  t20 := Tryz.underlying20
  a20 := Tryz.isAgg20
  z20 := Tryz.sizeOf20
  v20 := Tryz.zeroValue20
  t37 := Tryz.underlying67
  a37 := Tryz.isAgg67
  z37 := Tryz.sizeOf67
  v37 := Tryz.zeroValue67
  t46 := Tryz.underlying155
  a46 := Tryz.isAgg155
  z46 := Tryz.sizeOf155
  v46 := Tryz.zeroValue155
  t51 := Tryz.underlying153
  a51 := Tryz.isAgg153
  z51 := Tryz.sizeOf153
  v51 := Tryz.zeroValue153
  t53 := Tryz.underlying136
  a53 := Tryz.isAgg136
  z53 := Tryz.sizeOf136
  v53 := Tryz.zeroValue136
  t171 := Tryz.underlying135
  a171 := Tryz.isAgg135
  z171 := Tryz.sizeOf135
  v171 := Tryz.zeroValue135
  t173 := Tryz.underlying139
  a173 := Tryz.isAgg139
  z173 := Tryz.sizeOf139
  v173 := Tryz.zeroValue139
  t212 := Tryz.underlying152
  a212 := Tryz.isAgg152
  z212 := Tryz.sizeOf152
  v212 := Tryz.zeroValue152
  t213 := Tryz.underlying154
  a213 := Tryz.isAgg154
  z213 := Tryz.sizeOf154
  t232 := Tryz.underlying175
  a232 := Tryz.isAgg175
  z232 := Tryz.sizeOf175
  v232 := Tryz.zeroValue175
  t233 := Tryz.underlying176
  a233 := Tryz.isAgg176
  z233 := Tryz.sizeOf176
  v233 := Tryz.zeroValue176
  g17 := by kernel_rfl
  g18 := by kernel_rfl
  g19 := by kernel_rfl
  i0 := by kernel_rfl
  i2 := by kernel_rfl
  i3 := by kernel_rfl
  i4 := by kernel_rfl
  i5 := by kernel_rfl
  i9 := by kernel_rfl
  i20 := by kernel_rfl
  i37 := by kernel_rfl
  i46 := by kernel_rfl
  i51 := by kernel_rfl
  i53 := by kernel_rfl
  i171 := by kernel_rfl
  i173 := by kernel_rfl
  i212 := by kernel_rfl
  i232 := by kernel_rfl
  i233 := by kernel_rfl
  m17 := by kernel_rfl
  m18 := by kernel_rfl
  m19 := by kernel_rfl }
open Go.RowKit Go.Sort Go.Lib in
theorem Tryz.strconv_Itoa (n : Int) (h0 : -9223372036854775808 ≤ n) (h1 : n ≤ 9223372036854775807) (w : World) (htab : Lib.TabIs Tryz.prog w "internal/strconv.uint64pow10" .u64 Lib.pow10Tab) :
    Calls Tryz.prog 72 #[.int .i64 n] w fun e w' => e = .returned (.string ⟨(Lib.itoa n).toArray⟩) ∧ ∃ k os, w' = grow (w.drewN k) os := Any.strconv_Itoa Tryz.laysM171 n h0 h1 w htab
def Tryz.QmA : Go.Shelf.Ren := ⟨fun | 172 => 119 | 244 => 137 | 245 => 138 | 247 => 150 | 279 => 151 | 280 => 152 | 281 => 153 | 282 => 154 | 287 => 163 | 316 => 164 | 171 => 72 | 205 => 165 | 321 => 174 | 322 => 175 | 243 => 111 | 246 => 125 | 283 => 140 | 284 => 141 | 285 => 142 | 286 => 143 | 129 => 157 | 317 => 156 | 318 => 158 | 319 => 159 | 320 => 160 | 337 => 170 | 338 => 171 | n => n, fun | 9 => 9 | 3 => 3 | 75 => 63 | 76 => 64 | 4 => 4 | 5 => 5 | 167 => 145 | 37 => 67 | 0 => 0 | 85 => 146 | 2 => 2 | 168 => 148 | 53 => 136 | 175 => 158 | 46 => 155 | 210 => 161 | 127 => 111 | 145 => 172 | 143 => 170 | 21 => 21 | 171 => 135 | 173 => 139 | 212 => 152 | 51 => 153 | 20 => 20 | 213 => 154 | 232 => 175 | 233 => 176 | 80 => 83 | n => n, fun | 15 => 1 | 16 => 2 | 17 => 0 | 18 => 6 | 19 => 7 | n => n⟩
theorem Tryz.laysC172 : Go.Proofs.LaysC.n172 Tryz.prog Tryz.QmA := {
  mixed := by kernel_rfl
  f129 := Tryz.func157.trans (congrArg some (by kernel_rfl))
  f171 := Tryz.func72.trans (congrArg some (by kernel_rfl))
  f172 := Tryz.func119.trans (congrArg some (by kernel_rfl))
  f205 := Tryz.func165.trans (congrArg some (by kernel_rfl))
  f243 := Tryz.func111.trans (congrArg some (by kernel_rfl))
  f244 := Tryz.func137.trans (congrArg some (by kernel_rfl))
  f245 := Tryz.func138.trans (congrArg some (by kernel_rfl))
  f246 := Tryz.func125.trans (congrArg some (by kernel_rfl))
  f247 := Tryz.func150.trans (congrArg some (by kernel_rfl))
  f279 := Tryz.func151.trans (congrArg some (by kernel_rfl))
  f280 := Tryz.func152.trans (congrArg some (by kernel_rfl))
  f281 := Tryz.func153.trans (congrArg some (by kernel_rfl))
  f282 := Tryz.func154.trans (congrArg some (by kernel_rfl))
  f283 := Tryz.func140.trans (congrArg some (by kernel_rfl))
  f284 := Tryz.func141.trans (congrArg some (by kernel_rfl))
  f285 := Tryz.func142.trans (congrArg some (by kernel_rfl))
  f286 := Tryz.func143.trans (congrArg some (by kernel_rfl))
  f287 := Tryz.func163.trans (congrArg some (by kernel_rfl))
  f316 := Tryz.func164.trans (congrArg some (by kernel_rfl))
  f317 := Tryz.func156.trans (congrArg some (by kernel_rfl))
  f318 := Tryz.func158.trans (congrArg some (by kernel_rfl))
  f319 := Tryz.func159.trans (congrArg some (by kernel_rfl))
  f320 := Tryz.func160.trans (congrArg some (by kernel_rfl))
  f321 := Tryz.func174.trans (congrArg some (by kernel_rfl))
  f322 := Tryz.func175.trans (congrArg some (by kernel_rfl))
  f337 := Tryz.func170.trans (congrArg some (by kernel_rfl))
  f338 := Tryz.func171.trans (congrArg some (by kernel_rfl))
  t0 := Tryz.underlying0
  a0 := Tryz.isAgg0
  z0 := Tryz.sizeOf0
  v0 := Tryz.zeroValue0
  t2 := Tryz.underlying2
  a2 := Tryz.isAgg2
  z2 := Tryz.sizeOf2
  v2 := Tryz.zeroValue2
  t3 := Tryz.underlying3
  a3 := Tryz.isAgg3
  z3 := Tryz.sizeOf3
  v3 := Tryz.zeroValue3
  t4 := Tryz.underlying4
  a4 := Tryz.isAgg4
  z4 := Tryz.sizeOf4
  v4 := Tryz.zeroValue4
  t5 := Tryz.underlying5
  a5 := Tryz.isAgg5
  z5 := Tryz.sizeOf5
  v5 := Tryz.zeroValue5
  t9 := Tryz.underlying9
  a9 := Tryz.isAgg9
  z9 := Tryz.sizeOf9
  v9 := Tryz.zeroValue9
  t20 := Tryz.underlying20
  a20 := Tryz.isAgg20
  z20 := Tryz.sizeOf20
  v20 := Tryz.zeroValue20
  t21 := Tryz.underlying21
  a21 := Tryz.isAgg21
  z21 := Tryz.sizeOf21
  v21 := Tryz.zeroValue21
  t37 := Tryz.underlying67
  a37 := Tryz.isAgg67
  z37 := Tryz.sizeOf67
  v37 := Tryz.zeroValue67
  t46 := Tryz.underlying155
  a46 := Tryz.isAgg155
  z46 := Tryz.sizeOf155
  v46 := Tryz.zeroValue155
  t51 := Tryz.underlying153
  a51 := Tryz.isAgg153
  z51 := Tryz.sizeOf153
  v51 := Tryz.zeroValue153
  t53 := Tryz.underlying136
  a53 := Tryz.isAgg136
  z53 := Tryz.sizeOf136
  v53 := Tryz.zeroValue136
  t75 := Tryz.underlying63
  a75 := Tryz.isAgg63
  z75 := Tryz.sizeOf63
  v75 := Tryz.zeroValue63
  t76 := Tryz.underlying64
  a76 := Tryz.isAgg64
  z76 := Tryz.sizeOf64
  v76 := Tryz.zeroValue64
  t85 := Tryz.underlying146
  a85 := Tryz.isAgg146
  z85 := Tryz.sizeOf146
  v85 := Tryz.zeroValue146
  t127 := Tryz.underlying111
  a127 := Tryz.isAgg111
  z127 := Tryz.sizeOf111
  v127 := Tryz.zeroValue111
  t143 := Tryz.underlying170
  a143 := Tryz.isAgg170
  z143 := Tryz.sizeOf170
  v143 := Tryz.zeroValue170
  t145 := Tryz.underlying172
  a145 := Tryz.isAgg172
  z145 := Tryz.sizeOf172
  v145 := Tryz.zeroValue172
  t167 := Tryz.underlying145
  a167 := Tryz.isAgg145
  z167 := Tryz.sizeOf145
  v167 := Tryz.zeroValue145
  t168 := Tryz.underlying148
  a168 := Tryz.isAgg148
  z168 := Tryz.sizeOf148
  v168 := Tryz.zeroValue148
  t171 := Tryz.underlying135
  a171 := Tryz.isAgg135
  z171 := Tryz.sizeOf135
  v171 := Tryz.zeroValue135
  t173 := Tryz.underlying139
  a173 := Tryz.isAgg139
  z173 := Tryz.sizeOf139
  v173 := Tryz.zeroValue139
  t175 := Tryz.underlying158
  a175 := Tryz.isAgg158
  z175 := Tryz.sizeOf158
  v175 := Tryz.zeroValue158
  t210 := Tryz.underlying161
  a210 := Tryz.isAgg161
  z210 := Tryz.sizeOf161
  v210 := Tryz.zeroValue161
  t212 := Tryz.underlying152
  a212 := Tryz.isAgg152
  z212 := Tryz.sizeOf152
  v212 := Tryz.zeroValue152
  t213 := Tryz.underlying154
  a213 := Tryz.isAgg154
  z213 := Tryz.sizeOf154
  t232 := Tryz.underlying175
  a232 := Tryz.isAgg175
  z232 := Tryz.sizeOf175
  v232 := Tryz.zeroValue175
  t233 := Tryz.underlying176
  a233 := Tryz.isAgg176
  z233 := Tryz.sizeOf176
  v233 := Tryz.zeroValue176
  g15 := by kernel_rfl
  g16 := by kernel_rfl
  g17 := by kernel_rfl
  g18 := by kernel_rfl
  g19 := by kernel_rfl
  t80 := Tryz.underlying83
  a80 := Tryz.isAgg83
  z80 := Tryz.sizeOf83
  v80 := Tryz.zeroValue83
  i0 := by kernel_rfl
  i2 := by kernel_rfl
  i3 := by kernel_rfl
  i4 := by kernel_rfl
  i5 := by kernel_rfl
  i9 := by kernel_rfl
  i20 := by kernel_rfl
  i21 := by kernel_rfl
  i37 := by kernel_rfl
  i46 := by kernel_rfl
  i51 := by kernel_rfl
  i53 := by kernel_rfl
  i75 := by kernel_rfl
  i76 := by kernel_rfl
  i80 := by kernel_rfl
  i85 := by kernel_rfl
  i127 := by kernel_rfl
  i143 := by kernel_rfl
  i145 := by kernel_rfl
  i167 := by kernel_rfl
  i168 := by kernel_rfl
  i171 := by kernel_rfl
  i173 := by kernel_rfl
  i175 := by kernel_rfl
  i210 := by kernel_rfl
  i212 := by kernel_rfl
  i232 := by kernel_rfl
  i233 := by kernel_rfl
  m15 := by kernel_rfl
  m16 := by kernel_rfl
  m17 := by kernel_rfl
  m18 := by kernel_rfl
  m19 := by kernel_rfl
  c0 := by kernel_rfl
  c2 := by kernel_rfl
  c3 := by kernel_rfl
  c4 := by kernel_rfl
  c5 := by kernel_rfl
  c9 := by kernel_rfl
  c20 := by kernel_rfl
  c21 := by kernel_rfl
  c37 := by kernel_rfl
  c46 := by kernel_rfl
  c51 := by kernel_rfl
  c53 := by kernel_rfl
  c75 := by kernel_rfl
  c76 := by kernel_rfl
  c80 := by kernel_rfl
  c85 := by kernel_rfl
  c127 := by kernel_rfl
  c143 := by kernel_rfl
  c145 := by kernel_rfl
  c167 := by kernel_rfl
  c168 := by kernel_rfl
  c171 := by kernel_rfl
  c173 := by kernel_rfl
  c175 := by kernel_rfl
  c210 := by kernel_rfl
  c212 := by kernel_rfl
  c213 := by kernel_rfl
  c232 := by kernel_rfl
  c233 := by kernel_rfl }
theorem Tryz.strconv_Atoi_ok (s : ByteArray) (hmax : s.size ≤ 9223372036854775806) (v : Int) (h : Lib.atoiAll s.data.toList = .ok v) (w : World) :
    Calls Tryz.prog 119 #[.string s] w fun e w' => e = .returned (.tuple #[.int .i64 v, .nilIface]) ∧ (w' = w ∨ ∃ t, w' = Lib.bytesWorld w 5 t) := Any.strconv_Atoi_ok Tryz.laysC172 s hmax v h w
def Tryz.QmF : Go.Shelf.Ren := ⟨fun | 144 => 124 | 143 => 139 | 219 => 155 | 217 => 166 | 225 => 167 | 224 => 168 | 267 => 169 | 266 => 176 | 314 => 177 | n => n, fun | 9 => 9 | 4 => 4 | 3 => 3 | 5 => 5 | 46 => 155 | 146 => 173 | 51 => 153 | n => n, fun | 1 => 3 | n => n⟩
theorem Tryz.lays144 : Go.Proofs.Lays.n144 Tryz.prog Tryz.QmF := {
  mixed := by kernel_rfl
  f143 := Tryz.func139.trans (congrArg some (by kernel_rfl))
  f144 := Tryz.func124.trans (congrArg some (by kernel_rfl))
  f217 := Tryz.func166.trans (congrArg some (by kernel_rfl))
  f219 := Tryz.func155.trans (congrArg some (by kernel_rfl))
  f224 := Tryz.func168.trans (congrArg some (by kernel_rfl))
  f225 := Tryz.func167.trans (congrArg some (by kernel_rfl))
  f266 := Tryz.func176.trans (congrArg some (by kernel_rfl))
  f267 := Tryz.func169.trans (congrArg some (by kernel_rfl))
  f314 := Tryz.func177.trans (congrArg some (by kernel_rfl))
  t3 := Tryz.underlying3
  a3 := Tryz.isAgg3
  z3 := Tryz.sizeOf3
  v3 := Tryz.zeroValue3
  t4 := Tryz.underlying4
  a4 := Tryz.isAgg4
  z4 := Tryz.sizeOf4
  v4 := Tryz.zeroValue4
  t5 := Tryz.underlying5
  a5 := Tryz.isAgg5
  z5 := Tryz.sizeOf5
  v5 := Tryz.zeroValue5
  t9 := Tryz.underlying9
  a9 := Tryz.isAgg9
  z9 := Tryz.sizeOf9
  v9 := Tryz.zeroValue9
  t46 := Tryz.underlying155
  a46 := Tryz.isAgg155
  z46 := Tryz.sizeOf155
  v46 := Tryz.zeroValue155
  t51 := Tryz.underlying153
  a51 := Tryz.isAgg153
  z51 := Tryz.sizeOf153
  v51 := Tryz.zeroValue153
  t146 := Tryz.underlying173
  a146 := Tryz.isAgg173
  z146 := Tryz.sizeOf173
  v146 := Tryz.zeroValue173
  g1 := by kernel_rfl }
theorem Tryz.strings_Contains_one (s : ByteArray) (c : UInt8) (w : World) :
    Calls Tryz.prog 124 #[.string s, .string ⟨#[c]⟩] w fun e w' => e = .returned (.bool (decide (0 ≤ Lib.indexByte s.data.toList c))) ∧ w' = w := Any.strings_Contains_one Tryz.lays144 s c w
end Go.Proofs
namespace Go.Proofs.YtehjodmnajgdgaaGreatDoor.Ab
inductive Alt where
  | done
  | stop
  | alt (i c : Nat) (sub more : Alt)
section
variable (P : Program) (N : Nat) (ops : Array Oper) (K : AS → Prop) (s : AS)
end
theorem Yt {P : Program} {N : Nat} {x y : Code} {Q : AExit → AS → Prop} {s : AS} (J : AS → Prop) (h1 : ∀ s, J s → Yy P N y Q s) (h2 : Yy P N x (AExit.then J Q) s) : Yy P N (.seq x y) Q s := by
  refine Qa9 (h2.mono fun e s' hq => ?_)
  cases e with
  | normal => exact h1 s' hq
  | _ => exact hq
end Go.Proofs.YtehjodmnajgdgaaGreatDoor.Ab
set_option maxRecDepth 4000
namespace Go.Proofs.YtehjodmnajgdgaaGreatDoor.Ab
open Go.Proofs
theorem Qcu (s : ByteArray) : Pure Tryz.prog 83 [.v (.string s)] (.b (decide (Qb2 1 s) && !resB s)) := by
 intro h
 have c := Qkl 1 (.inl rfl) s
 have cr := Qe4 s
 cases hw : decide (Qb2 1 s) with
 | false =>
  rw [hw] at c
  refine Qe Tryz.func83 rfl Tryz.call83 Tryz.ntmps83 (congrArg Array.toList Tryz.results83) (by simp) ?_
  repeat (first | ((first | (with_reducible (first | refine Qa fun K E hK hE => ?_ | refine Qz c ?_))); simp -implicitDefEqProofs only [Qd, Qb, Qf, OpW, QQ, aop, undef, AS.ev, Qc, Qn, Qt, Qg, Qv, QmZ, ↓reduceIte, Nat.reduceLT, Nat.reduceEqDiff, QmS, QmT, QmX, QmV, Qm7, Qnb, QmW, beq_true]) | (with_reducible refine Qm ?_) | ((with_reducible refine hK _ ?_); clear hK))
  simp only [QN, Qp, Qw, upd, ↓reduceIte, QmY, Qm2]; first | refine Qh (htake _ _) (.keep (.v _)) ⟨rfl, rfl⟩ | refine Qh List.take_length (.keep (.v _)) ⟨rfl, rfl⟩
 | true =>
  rw [hw] at c
  refine Qe Tryz.func83 rfl Tryz.call83 Tryz.ntmps83 (congrArg Array.toList Tryz.results83) (by simp) ?_
  repeat (first | ((first | (with_reducible (first | refine Qa fun K E hK hE => ?_ | refine Qz c ?_ | refine Qz cr ?_))); simp -implicitDefEqProofs only [Qd, Qb, Qf, OpW, QQ, aop, undef, AS.ev, Qc, Qn, Qt, Qg, Qv, QmZ, ↓reduceIte, Nat.reduceLT, Nat.reduceEqDiff, QmS, QmT, QmU, QmX, QmV, Qm7, Qnb, Xp, Qm0]) | (with_reducible refine Qm ?_) | ((with_reducible refine hK _ ?_); clear hK))
  simp only [QN, Qp, Qw, upd, ↓reduceIte, QmY, Qm2]; first | refine Qh (htake _ _) (.keep (.v _)) ⟨rfl, rfl⟩ | refine Qh List.take_length (.keep (.v _)) ⟨rfl, rfl⟩
theorem Qjy (c : Int) : ofN c = 1 ↔ 97 ≤ c ∧ c ≤ 122 := by
 unfold ofN
 repeat' split
 all_goals (constructor <;> intro _ <;> first | omega | assumption | trivial | contradiction)
def Z9 (s : ByteArray) : Prop := 1 ≤ s.size ∧ s.size ≤ 40 ∧ Fol s
instance (s : ByteArray) : Decidable (Z9 s) := by unfold Z9; infer_instance
theorem QfQ (b : ByteArray) (hb : b.size ≤ maxLen) : Pure Tryz.prog 105 [.v (.string b)] (.b (decide (Z9 b))) := by
 intro h
 have hsl := fun b => Yf Tryz.prog 9 3 (by kernel_rfl) b
 have hbm : b.size ≤ 9223372036854775807 := hb
 refine Qe Tryz.func105 rfl Tryz.call105 Tryz.ntmps105 (congrArg Array.toList Tryz.results105) (by simp) ?_
 repeat (first | (((with_reducible refine Qa fun K E hK hE => ?_)); simp -implicitDefEqProofs only [Qd, Qb, Qf, OpW, aop, AS.ev, Qc, Qn, Qt, Nat.reduceLT]) | (with_reducible (first | refine Qi fun K hK => ?_ | refine Qq ?_)) | ((with_reducible refine hK _ ?_); clear hK))
 obtain ⟨I, hI⟩ : ∃ I : Nat → AS → Prop, I = fun m' s => ∃ (p : Nat), m' = b.size - p ∧ p ≤ b.size ∧ (∀ k, k < p → fol (byteAt b k)) ∧ s.tm 0 = .v (.string b) ∧ s.tm 3 = .i p ∧ s.h = h := ⟨_, rfl⟩; refine XJ I ?_ (m := b.size) ?_
 ·intro m' s hs; rw [hI] at hs; obtain ⟨tm, hp⟩ := s; dsimp only at hs; obtain ⟨p, rfl, hp', he, t0, t3, rfl⟩ := hs
  by_cases hlt : p < b.size
  ·have hix := YU Tryz.prog 9 (by kernel_rfl) b p hlt
   have c1 := Qch (byteAt b p)
   have c2 := Qfy (byteAt b p)
   have onw : fol (byteAt b p) → ∀ k, k < p + 1 → fol (byteAt b k) := fun hf k hk => by
    rcases Nat.lt_or_ge k p with h' | h'
    ·exact he k h'
    ·have : k = p := by omega
     rw [this]; exact hf
   have stop : ¬ fol (byteAt b p) → decide (Z9 b) = false := fun hf => decide_eq_false fun h => hf (h.2.2 p hlt)
   iterate 9 (try (first | (((with_reducible refine Qa fun K E hK hE => ?_)); simp -implicitDefEqProofs only [Qd, Qb, Qf, OpW, aop, AS.ev, Qc, Qg, ↓reduceIte, Nat.reduceLT, Nat.reduceEqDiff, aBin, aLen, QmU, Q3, goInt, Qno, QnG, t0, t3, hsl, hlt]) | (with_reducible (first | refine Qi fun K hK => ?_ | refine Qq ?_ | refine QD ?_ | refine Qj ?_)) | ((with_reducible refine hK _ ?_); clear hK) | (refine Qk rfl ?_; simp only [↓reduceIte])))
   refine Yt (fun s => s.tm 39 = .b (decide (¬ fol (byteAt b p))) ∧ s.tm 0 = .v (.string b) ∧ s.tm 3 = .i p ∧ s.h = hp) ?_ ?_
   ·rintro ⟨tm, hq⟩ ⟨t39, t0, t3, rfl⟩
    dsimp only at t39 t0 t3
    by_cases hf : fol (byteAt b p)
    ·rw [decide_eq_false (fun h => h hf)] at t39
     refine Qk (by exact t39) ?_
     simp only [↓reduceIte, QmW]
     repeat (first | (((with_reducible refine Qr fun K E hK hE => ?_)); simp -implicitDefEqProofs only [Qd, Qb, Qf, OpW, aop, AS.ev, Qc, Qn, Qg, ↓reduceIte, Nat.reduceLT, aBin, QmU, XK, t3]) | (with_reducible (first | refine QD ?_ | refine Qj ?_ | refine QF ?_)) | ((with_reducible refine hK _ ?_); clear hK))
     refine Yo.mk (m' := b.size - (p + 1)) (by omega) ?_
     rw [hI]
     refine ⟨p + 1, rfl, hlt, onw hf, t0, ?_, rfl⟩
     simp only [upd, ↓reduceIte]
     rw [Zi (by omega)]
    ·rw [decide_eq_true hf] at t39
     refine Qk (by exact t39) ?_
     simp only [↓reduceIte]
     repeat (first | (((with_reducible refine Qa fun K E hK hE => ?_)); simp -implicitDefEqProofs only [Qd, Qb, Qf, OpW, aop, AS.ev, Qc, Qt, Nat.reduceLT]) | (with_reducible (first | refine Qm ?_ | refine QA ?_ | refine QJ ?_)) | ((with_reducible refine hK _ ?_); clear hK))
     simp only [QN, Qp, Qw, upd, ↓reduceIte, QmY, Qm2]
     exact Qh List.take_length (.keep (.v _)) ⟨by rw [stop hf], rfl⟩
   ·refine Qr fun K E hK hE => ?_
    by_cases hl : 97 ≤ byteAt b p ∧ byteAt b p ≤ 122
    ·rw [decide_eq_true hl] at c1
     have hv : decide (¬ fol (byteAt b p)) = false := decide_eq_false fun h => h ((QaV _).2 (.inl hl))
     (try simp only [Qnt]); refine Qy 6 (fun K1 hK1 => ?_); simp -implicitDefEqProofs only [Qb, Qf, OpW, aop, AS.ev, Qc, Qg, ↓reduceIte, Nat.reduceLT, Nat.reduceEqDiff, QmU, Qm7, Qnb, Qm3, Qna, t0, t3, hix]; (repeat ((((with_reducible refine Qz c1 ?_)); simp -implicitDefEqProofs only [Qd, Qb, Qf, OpW, QQ, aop, AS.ev, Qc, Qg, Qnf, ↓reduceIte, Nat.reduceLT, QmU, Xp]))); refine hK1 _ ?_; clear hK1
     (try simp only [Qm1, Qm9]); refine Qy 7 (fun K1 hK1 => ?_); simp -implicitDefEqProofs only [Qd, Qb, Qf, OpW, aop, undef, AS.ev, Qc, Qt, Qg, ↓reduceIte, Nat.reduceLT, Nat.reduceEqDiff, QmS, QmT, QmX, QmV, Qm3, Qna, QmW, beq_true]; (repeat ((((with_reducible refine Qa fun K E hK hE => ?_)); simp -implicitDefEqProofs only [Qd, Qb, Qf, OpW, QQ, aop, undef, ZB, Qny, Qnz, QaA, Y7, ZG, AS.ev, Qc, QL, Qn, Qt, QO, XG, ZI, XQ, X7, Xh, ZH, Qg, Qv, QmZ, Qni, AV.Qmr, Qo, QT, Xv, YN, Xj, YI, Y6, Za, YA, QB, Q7, Yz, YK, Yu, YL, Zb, Y8, YE, Qnc, Qnd, Qs, Yk, Qu, QE, YG, XH, XL, XD, QI, YD, Xq, YB, Y5, Y9, YC, Qne, QnB, QnC, Qnf, Qng, ↓reduceIte, Qm5, Qm6, Nat.reduceAdd, Nat.reduceLT, Nat.reduceLeDiff, Nat.reduceEqDiff, Nat.reduceSub, Nat.reduceMul, Qm4, Qnh, Qnr, Qns, Qnq, Xz, XT, aBin, aLen, Q0, hget, Ym, hset, hlen, happ, QmS, QmT, QnI, Qnm, Qnn, QmU, Qnx, QmX, Qnw, QmY, Qnt, QmV, Qm7, Qnb, Qnk, Qnj, Qnl, Qm3, Qna, Qm1, Qm9, Q2, Q3, Q9, Xr, Xi, XK, Xp, Yw, Qfg, Qhl, goInt, Qno, Qnp, Qm0, QnD, Qnv, Int.toNat_zero, Int.toNat_one, Qnu, QnG, QnH, QnE, QmW, QnA, beq_true, beq_false, Nat.reducePow, Nat.zero_le, Nat.zero_mul, T.Qmp, T.Qmq, QK, X6, ti3, zi3, un3, ti4, zi4, un4, ti5, zi5, un5, ti9, ei9, zi9, un9, QnF, Int.sub_zero, QaG, QC, t0, t3, hix]))); refine hK1 _ ?_; clear hK1
     (try simp only [Qm1, Qm9]); refine Qy 5 (fun K1 hK1 => ?_); simp -implicitDefEqProofs only [Qd, Qb, Qf, undef, Qc, Qg, ↓reduceIte, Nat.reduceLT, Nat.reduceEqDiff, QmS, QmT, QmX, QmV, Qm3, Qna, beq_true]; refine hK1 _ ?_; clear hK1
     (try simp only [Qm1, Qm9]); refine Qy 6 (fun K1 hK1 => ?_); simp -implicitDefEqProofs only [Qd, Qb, Qf, OpW, aop, undef, AS.ev, Qc, Qt, Qg, ↓reduceIte, Nat.reduceLT, Nat.reduceEqDiff, QmS, QmT, QmX, QmV, Qm3, Qna, QmW, beq_true]; refine hK1 _ ?_; clear hK1
     (try simp only [Qm1, Qm9])
     simp -implicitDefEqProofs only [Qd, Qb, Qf, OpW, aop, undef, AS.ev, Qc, Qt, Qg, ↓reduceIte, Nat.reduceLT, Nat.reduceEqDiff, QmS, QmT, QmX, QmV, QmW, beq_true]
     repeat (first | (with_reducible refine Qj ?_) | ((with_reducible refine hK _ ?_); clear hK))
     (try (refine hK _ ?_; rw [Xz]))
     exact ⟨by rw [hv]; rfl, t0, t3, rfl⟩
    ·rw [decide_eq_false hl] at c1
     by_cases hu : 65 ≤ byteAt b p ∧ byteAt b p ≤ 90
     ·rw [decide_eq_true hu] at c2
      have hv : decide (¬ fol (byteAt b p)) = false := decide_eq_false fun h => h ((QaV _).2 (.inr (.inl hu)))
      (try simp only [Qnt]); refine Qy 6 (fun K1 hK1 => ?_); simp -implicitDefEqProofs only [Qb, Qf, OpW, aop, AS.ev, Qc, Qg, ↓reduceIte, Nat.reduceLT, Nat.reduceEqDiff, QmU, Qm7, Qnb, Qm3, Qna, t0, t3, hix]; (repeat ((((with_reducible refine Qz c1 ?_)); simp -implicitDefEqProofs only [Qd, Qb, Qf, OpW, QQ, aop, AS.ev, Qc, Qg, Qng, ↓reduceIte, Nat.reduceLT, QmU, Xp]))); refine hK1 _ ?_; clear hK1
      (try simp only [Qm1, Qm9]); refine Qy 7 (fun K1 hK1 => ?_); simp -implicitDefEqProofs only [Qb, Qf, OpW, aop, AS.ev, Qc, Qg, ↓reduceIte, Nat.reduceLT, Nat.reduceEqDiff, QmS, QmT, QmU, QmX, QmV, Qm7, Qnb, Qm3, Qna, Qm0, t0, t3, hix]; (repeat ((((with_reducible refine Qz c2 ?_)); simp -implicitDefEqProofs only [Qd, Qb, Qf, OpW, QQ, aop, AS.ev, Qc, Qg, Qnf, ↓reduceIte, Nat.reduceLT, Nat.reduceEqDiff, QmS, QmT, QmU, QmX, QmV, Xp, Qm0]))); refine hK1 _ ?_; clear hK1
      (try simp only [Qm1, Qm9]); refine Qy 5 (fun K1 hK1 => ?_); simp -implicitDefEqProofs only [Qd, Qb, Qf, undef, Qc, Qg, ↓reduceIte, Nat.reduceLT, Nat.reduceEqDiff, QmS, QmT, QmX, QmV, Qm3, Qna, beq_true]; refine hK1 _ ?_; clear hK1
      (try simp only [Qm1, Qm9]); refine Qy 6 (fun K1 hK1 => ?_); simp -implicitDefEqProofs only [Qd, Qb, Qf, OpW, aop, undef, AS.ev, Qc, Qt, Qg, ↓reduceIte, Nat.reduceLT, Nat.reduceEqDiff, QmS, QmT, QmX, QmV, Qm3, Qna, QmW, beq_true]; refine hK1 _ ?_; clear hK1
      (try simp only [Qm1, Qm9])
      simp -implicitDefEqProofs only [Qd, Qb, Qf, OpW, aop, undef, AS.ev, Qc, Qt, Qg, ↓reduceIte, Nat.reduceLT, Nat.reduceEqDiff, QmS, QmT, QmX, QmV, QmW, beq_true]
      repeat (first | (with_reducible refine Qj ?_) | ((with_reducible refine hK _ ?_); clear hK))
      (try (refine hK _ ?_; rw [Xz]))
      exact ⟨by rw [hv]; rfl, t0, t3, rfl⟩
     ·rw [decide_eq_false hu] at c2
      by_cases d1 : byteAt b p < 48
      ·have q' : (byteAt b p != 95) = true := by simp; omega
       have hv : decide (¬ fol (byteAt b p)) = true := decide_eq_true fun hf => by have := (QaV _).1 hf; omega
       (try simp only [Qnt]); refine Qy 6 (fun K1 hK1 => ?_); simp -implicitDefEqProofs only [Qb, Qf, OpW, aop, AS.ev, Qc, Qg, ↓reduceIte, Nat.reduceLT, Nat.reduceEqDiff, QmU, Qm7, Qnb, Qm3, Qna, t0, t3, hix]; (repeat ((((with_reducible refine Qz c1 ?_)); simp -implicitDefEqProofs only [Qd, Qb, Qf, OpW, QQ, aop, AS.ev, Qc, Qg, Qng, ↓reduceIte, Nat.reduceLT, QmU, Xp]))); refine hK1 _ ?_; clear hK1
       (try simp only [Qm1, Qm9]); refine Qy 7 (fun K1 hK1 => ?_); simp -implicitDefEqProofs only [Qb, Qf, OpW, aop, AS.ev, Qc, Qg, ↓reduceIte, Nat.reduceLT, Nat.reduceEqDiff, QmS, QmT, QmU, QmX, QmV, Qm7, Qnb, Qm3, Qna, Qm0, t0, t3, hix]; (repeat ((((with_reducible refine Qz c2 ?_)); simp -implicitDefEqProofs only [Qd, Qb, Qf, OpW, QQ, aop, AS.ev, Qc, Qg, Qng, ↓reduceIte, Nat.reduceLT, Nat.reduceEqDiff, QmS, QmT, QmU, QmX, QmV, Xp, Qm0]))); refine hK1 _ ?_; clear hK1
       (try simp only [Qm1, Qm9]); refine Qy 5 (fun K1 hK1 => ?_); simp -implicitDefEqProofs only [Qd, Qb, Qf, OpW, aop, AS.ev, Qc, Qn, Qg, ↓reduceIte, Nat.reduceLT, Nat.reduceEqDiff, aBin, QmS, QmT, QmU, QmX, QmV, Qm3, Qna, Q3, Qno, Qm0, t0, t3, hix, d1]; refine hK1 _ ?_; clear hK1
       (try simp only [Qm1, Qm9]); refine Qy 6 (fun K1 hK1 => ?_); simp -implicitDefEqProofs only [Qd, Qb, Qf, OpW, aop, undef, AS.ev, Qc, Qt, Qg, Qnf, ↓reduceIte, Nat.reduceLT, Nat.reduceEqDiff, QmS, QmT, QmX, QmV, Qm3, Qna, Qm0, beq_false]; refine hK1 _ ?_; clear hK1
       (try simp only [Qm1, Qm9])
       simp -implicitDefEqProofs only [Qd, Qb, Qf, OpW, aop, AS.ev, Qc, Qn, Qg, ↓reduceIte, Nat.reduceLT, Nat.reduceEqDiff, aBin, QmS, QmT, QmU, QmX, QmV, Q2, Qm0, t0, t3, hix, q']
       repeat (first | (with_reducible refine Qj ?_) | ((with_reducible refine hK _ ?_); clear hK))
       (try (refine hK _ ?_; rw [Xz]))
       exact ⟨by rw [hv]; rfl, t0, t3, rfl⟩
      ·by_cases d2 : byteAt b p > 57
       ·by_cases q : byteAt b p = 95
        ·have q' : (byteAt b p != 95) = false := by simp [q]
         have hv : decide (¬ fol (byteAt b p)) = false := decide_eq_false fun h => h ((QaV _).2 (.inr (.inr (.inl q))))
         (try simp only [Qnt]); refine Qy 6 (fun K1 hK1 => ?_); simp -implicitDefEqProofs only [Qb, Qf, OpW, aop, AS.ev, Qc, Qg, ↓reduceIte, Nat.reduceLT, Nat.reduceEqDiff, QmU, Qm7, Qnb, Qm3, Qna, t0, t3, hix]; (repeat ((((with_reducible refine Qz c1 ?_)); simp -implicitDefEqProofs only [Qd, Qb, Qf, OpW, QQ, aop, AS.ev, Qc, Qg, Qng, ↓reduceIte, Nat.reduceLT, QmU, Xp]))); refine hK1 _ ?_; clear hK1
         (try simp only [Qm1, Qm9]); refine Qy 7 (fun K1 hK1 => ?_); simp -implicitDefEqProofs only [Qb, Qf, OpW, aop, AS.ev, Qc, Qg, ↓reduceIte, Nat.reduceLT, Nat.reduceEqDiff, QmS, QmT, QmU, QmX, QmV, Qm7, Qnb, Qm3, Qna, Qm0, t0, t3, hix]; (repeat ((((with_reducible refine Qz c2 ?_)); simp -implicitDefEqProofs only [Qd, Qb, Qf, OpW, QQ, aop, AS.ev, Qc, Qg, Qng, ↓reduceIte, Nat.reduceLT, Nat.reduceEqDiff, QmS, QmT, QmU, QmX, QmV, Xp, Qm0]))); refine hK1 _ ?_; clear hK1
         (try simp only [Qm1, Qm9]); refine Qy 5 (fun K1 hK1 => ?_); simp -implicitDefEqProofs only [Qd, Qb, Qf, OpW, aop, AS.ev, Qc, Qn, Qg, ↓reduceIte, Nat.reduceLT, Nat.reduceEqDiff, aBin, QmS, QmT, QmU, QmX, QmV, Qm3, Qna, Q3, Qnp, Qm0, t0, t3, hix, d1]; refine hK1 _ ?_; clear hK1
         (try simp only [Qm1, Qm9]); refine Qy 6 (fun K1 hK1 => ?_); simp -implicitDefEqProofs only [Qd, Qb, Qf, OpW, aop, AS.ev, Qc, Qn, Qg, ↓reduceIte, Nat.reduceLT, Nat.reduceEqDiff, aBin, QmS, QmT, QmU, QmX, QmV, Qm3, Qna, Xr, Qno, Qm0, QmW, t0, t3, hix, d2]; refine hK1 _ ?_; clear hK1
         (try simp only [Qm1, Qm9])
         simp -implicitDefEqProofs only [Qd, Qb, Qf, OpW, aop, AS.ev, Qc, Qn, Qg, ↓reduceIte, Nat.reduceLT, Nat.reduceEqDiff, aBin, QmS, QmT, QmU, QmX, QmV, Q2, Qm0, t0, t3, hix, q']
         repeat (first | (with_reducible refine Qj ?_) | ((with_reducible refine hK _ ?_); clear hK))
         (try (refine hK _ ?_; rw [Xz]))
         exact ⟨by rw [hv]; rfl, t0, t3, rfl⟩
        ·have q' : (byteAt b p != 95) = true := by simp [q]
         have hv : decide (¬ fol (byteAt b p)) = true := decide_eq_true fun hf => by have := (QaV _).1 hf; omega
         (try simp only [Qnt]); refine Qy 6 (fun K1 hK1 => ?_); simp -implicitDefEqProofs only [Qb, Qf, OpW, aop, AS.ev, Qc, Qg, ↓reduceIte, Nat.reduceLT, Nat.reduceEqDiff, QmU, Qm7, Qnb, Qm3, Qna, t0, t3, hix]; (repeat ((((with_reducible refine Qz c1 ?_)); simp -implicitDefEqProofs only [Qd, Qb, Qf, OpW, QQ, aop, AS.ev, Qc, Qg, Qng, ↓reduceIte, Nat.reduceLT, QmU, Xp]))); refine hK1 _ ?_; clear hK1
         (try simp only [Qm1, Qm9]); refine Qy 7 (fun K1 hK1 => ?_); simp -implicitDefEqProofs only [Qb, Qf, OpW, aop, AS.ev, Qc, Qg, ↓reduceIte, Nat.reduceLT, Nat.reduceEqDiff, QmS, QmT, QmU, QmX, QmV, Qm7, Qnb, Qm3, Qna, Qm0, t0, t3, hix]; (repeat ((((with_reducible refine Qz c2 ?_)); simp -implicitDefEqProofs only [Qd, Qb, Qf, OpW, QQ, aop, AS.ev, Qc, Qg, Qng, ↓reduceIte, Nat.reduceLT, Nat.reduceEqDiff, QmS, QmT, QmU, QmX, QmV, Xp, Qm0]))); refine hK1 _ ?_; clear hK1
         (try simp only [Qm1, Qm9]); refine Qy 5 (fun K1 hK1 => ?_); simp -implicitDefEqProofs only [Qd, Qb, Qf, OpW, aop, AS.ev, Qc, Qn, Qg, ↓reduceIte, Nat.reduceLT, Nat.reduceEqDiff, aBin, QmS, QmT, QmU, QmX, QmV, Qm3, Qna, Q3, Qnp, Qm0, t0, t3, hix, d1]; refine hK1 _ ?_; clear hK1
         (try simp only [Qm1, Qm9]); refine Qy 6 (fun K1 hK1 => ?_); simp -implicitDefEqProofs only [Qd, Qb, Qf, OpW, aop, AS.ev, Qc, Qn, Qg, ↓reduceIte, Nat.reduceLT, Nat.reduceEqDiff, aBin, QmS, QmT, QmU, QmX, QmV, Qm3, Qna, Xr, Qno, Qm0, QmW, t0, t3, hix, d2]; refine hK1 _ ?_; clear hK1
         (try simp only [Qm1, Qm9])
         simp -implicitDefEqProofs only [Qd, Qb, Qf, OpW, aop, AS.ev, Qc, Qn, Qg, ↓reduceIte, Nat.reduceLT, Nat.reduceEqDiff, aBin, QmS, QmT, QmU, QmX, QmV, Q2, Qm0, t0, t3, hix, q']
         repeat (first | (with_reducible refine Qj ?_) | ((with_reducible refine hK _ ?_); clear hK))
         (try (refine hK _ ?_; rw [Xz]))
         exact ⟨by rw [hv]; rfl, t0, t3, rfl⟩
       ·skip
        have hv : decide (¬ fol (byteAt b p)) = false := decide_eq_false fun h => h ((QaV _).2 (.inr (.inr (.inr ⟨by omega, by omega⟩))))
        (try simp only [Qnt]); refine Qy 6 (fun K1 hK1 => ?_); simp -implicitDefEqProofs only [Qb, Qf, OpW, aop, AS.ev, Qc, Qg, ↓reduceIte, Nat.reduceLT, Nat.reduceEqDiff, QmU, Qm7, Qnb, Qm3, Qna, t0, t3, hix]; (repeat ((((with_reducible refine Qz c1 ?_)); simp -implicitDefEqProofs only [Qd, Qb, Qf, OpW, QQ, aop, AS.ev, Qc, Qg, Qng, ↓reduceIte, Nat.reduceLT, QmU, Xp]))); refine hK1 _ ?_; clear hK1
        (try simp only [Qm1, Qm9]); refine Qy 7 (fun K1 hK1 => ?_); simp -implicitDefEqProofs only [Qb, Qf, OpW, aop, AS.ev, Qc, Qg, ↓reduceIte, Nat.reduceLT, Nat.reduceEqDiff, QmS, QmT, QmU, QmX, QmV, Qm7, Qnb, Qm3, Qna, Qm0, t0, t3, hix]; (repeat ((((with_reducible refine Qz c2 ?_)); simp -implicitDefEqProofs only [Qd, Qb, Qf, OpW, QQ, aop, AS.ev, Qc, Qg, Qng, ↓reduceIte, Nat.reduceLT, Nat.reduceEqDiff, QmS, QmT, QmU, QmX, QmV, Xp, Qm0]))); refine hK1 _ ?_; clear hK1
        (try simp only [Qm1, Qm9]); refine Qy 5 (fun K1 hK1 => ?_); simp -implicitDefEqProofs only [Qd, Qb, Qf, OpW, aop, AS.ev, Qc, Qn, Qg, ↓reduceIte, Nat.reduceLT, Nat.reduceEqDiff, aBin, QmS, QmT, QmU, QmX, QmV, Qm3, Qna, Q3, Qnp, Qm0, t0, t3, hix, d1]; refine hK1 _ ?_; clear hK1
        (try simp only [Qm1, Qm9]); refine Qy 6 (fun K1 hK1 => ?_); simp -implicitDefEqProofs only [Qd, Qb, Qf, OpW, aop, AS.ev, Qc, Qn, Qg, ↓reduceIte, Nat.reduceLT, Nat.reduceEqDiff, aBin, QmS, QmT, QmU, QmX, QmV, Qm3, Qna, Xr, Qnp, Qm0, QmW, t0, t3, hix, d2]; refine hK1 _ ?_; clear hK1
        (try simp only [Qm1, Qm9])
        simp -implicitDefEqProofs only [Qd, Qb, Qf, OpW, aop, undef, AS.ev, Qc, Qt, Qg, ↓reduceIte, Nat.reduceLT, Nat.reduceEqDiff, QmS, QmT, QmX, QmV, QmW, beq_true]
        repeat (first | (with_reducible refine Qj ?_) | ((with_reducible refine hK _ ?_); clear hK))
        (try (refine hK _ ?_; rw [Xz]))
        exact ⟨by rw [hv]; rfl, t0, t3, rfl⟩
  ·have hpz : p = b.size := by omega
   rw [hpz] at he
   by_cases g1 : (b.size : Int) ≥ 1
   ·by_cases g2 : (b.size : Int) ≤ 40
    ·repeat (first | (((with_reducible refine Qa fun K E hK hE => ?_)); simp -implicitDefEqProofs only [Qd, Qb, Qf, OpW, aop, AS.ev, Qc, Qn, Qg, ↓reduceIte, Nat.reduceLT, Nat.reduceEqDiff, aBin, aLen, QmS, QmT, QmU, QmX, QmV, Q3, Q9, Xi, goInt, Qno, Qnp, Qm0, QnG, t0, t3, hsl, hlt, g1, g2]) | (with_reducible (first | refine Qi fun K hK => ?_ | refine Qm ?_ | refine Xb ?_ | refine Qj ?_ | refine Q5 ?_ | refine Q4 ?_)) | ((with_reducible refine hK _ ?_); clear hK) | (clear hK; (with_reducible refine hK _ ?_); clear hK) | (refine Qk rfl ?_; simp only [↓reduceIte, QmW]))
     simp only [QN, Qp, Qw, upd, ↓reduceIte, QmY, Qm2]
     exact Qh List.take_length (.keep (.v _)) ⟨by rw [decide_eq_true (show Z9 b from ⟨by omega, by omega, he⟩)], rfl⟩
    ·repeat (first | (((with_reducible refine Qa fun K E hK hE => ?_)); simp -implicitDefEqProofs only [Qd, Qb, Qf, OpW, aop, AS.ev, Qc, Qn, Qg, ↓reduceIte, Nat.reduceLT, Nat.reduceEqDiff, aBin, aLen, QmS, QmT, QmU, QmX, QmV, Q3, Q9, Xi, goInt, Qno, Qnp, Qm0, QnG, t0, t3, hsl, hlt, g1, g2]) | (with_reducible (first | refine Qi fun K hK => ?_ | refine Qm ?_ | refine Xb ?_ | refine Qj ?_ | refine Q5 ?_ | refine Q4 ?_)) | ((with_reducible refine hK _ ?_); clear hK) | (clear hK; (with_reducible refine hK _ ?_); clear hK) | (refine Qk rfl ?_; simp only [↓reduceIte, QmW]))
     simp only [QN, Qp, Qw, upd, ↓reduceIte, QmY, Qm2]
     exact Qh List.take_length (.keep (.v _)) ⟨by rw [decide_eq_false (fun h : Z9 b => by have := h.2.1; omega)], rfl⟩
   ·repeat (first | (((with_reducible refine Qa fun K E hK hE => ?_)); simp -implicitDefEqProofs only [Qd, Qb, Qf, OpW, aop, undef, AS.ev, Qc, Qn, Qt, Qg, ↓reduceIte, Nat.reduceLT, Nat.reduceEqDiff, aBin, aLen, QmS, QmT, QmU, QmX, QmV, Q3, Xi, goInt, Qnp, QnG, QmW, beq_true, t0, t3, hsl, hlt, g1]) | (with_reducible (first | refine Qi fun K hK => ?_ | refine Qm ?_ | refine Xb ?_ | refine Qj ?_ | refine Q5 ?_ | refine Q4 ?_)) | ((with_reducible refine hK _ ?_); clear hK) | (clear hK; (with_reducible refine hK _ ?_); clear hK) | (refine Qk rfl ?_; simp only [↓reduceIte, QmW]))
    simp only [QN, Qp, Qw, upd, ↓reduceIte, QmY, Qm2]
    exact Qh List.take_length (.keep (.v _)) ⟨by rw [decide_eq_false (fun h : Z9 b => by have := h.1; omega)], rfl⟩
 ·rw [hI]
  exact ⟨0, by omega, Nat.zero_le _, fun k hk => by omega, rfl, rfl, rfl⟩
theorem QaD (s : ByteArray) (hb : s.size ≤ maxLen) : Pure Tryz.prog 64 [.v (.string s)] (.b (decide (Qb2 1 s) && !resB s)) := by
 intro h
 have c := QfQ s hb
 have cr := Qc0 s
 have cl := Qch (byteAt s 0)
 by_cases hw : Z9 s
 ·rw [decide_eq_true hw] at c
  have hix := Zp Tryz.prog 9 (by kernel_rfl) s (by have := hw.1; omega)
  by_cases hl : 97 ≤ byteAt s 0 ∧ byteAt s 0 ≤ 122
  ·rw [decide_eq_true hl] at cl
   have e : decide (Qb2 1 s) = true := decide_eq_true ⟨hw.1, hw.2.1, (Qjy _).2 hl, hw.2.2⟩
   refine Qe Tryz.func64 rfl Tryz.call64 Tryz.ntmps64 (congrArg Array.toList Tryz.results64) (by simp) ?_
   repeat (first | ((first | (with_reducible (first | refine Qa fun K E hK hE => ?_ | refine Qz c ?_ | refine Qz cl ?_ | refine Qz cr ?_))); simp -implicitDefEqProofs only [Qd, Qb, Qf, OpW, QQ, aop, undef, AS.ev, Qc, Qn, Qt, Qg, Qv, QmZ, ↓reduceIte, Nat.reduceLT, Nat.reduceEqDiff, QmS, QmT, QmU, QmX, QmV, Qm7, Qnb, Xp, Qm0, hix]) | (with_reducible refine Qm ?_) | ((with_reducible refine hK _ ?_); clear hK))
   simp only [QN, Qp, Qw, upd, ↓reduceIte, QmY, Qm2]; first | refine Qh (htake _ _) (.keep (.v _)) ⟨by rw [e, Bool.true_and], rfl⟩ | refine Qh List.take_length (.keep (.v _)) ⟨by rw [e, Bool.true_and], rfl⟩
  ·rw [decide_eq_false hl] at cl
   have e : decide (Qb2 1 s) = false := decide_eq_false fun h => hl ((Qjy _).1 h.2.2.1)
   refine Qe Tryz.func64 rfl Tryz.call64 Tryz.ntmps64 (congrArg Array.toList Tryz.results64) (by simp) ?_
   repeat (first | ((first | (with_reducible (first | refine Qa fun K E hK hE => ?_ | refine Qz c ?_ | refine Qz cl ?_))); simp -implicitDefEqProofs only [Qd, Qb, Qf, OpW, QQ, aop, undef, AS.ev, Qc, Qn, Qt, Qg, Qv, QmZ, ↓reduceIte, Nat.reduceLT, Nat.reduceEqDiff, QmS, QmT, QmU, QmX, QmV, Qm7, Qnb, Qm0, QmW, beq_true, hix]) | (with_reducible refine Qm ?_) | ((with_reducible refine hK _ ?_); clear hK))
   simp only [QN, Qp, Qw, upd, ↓reduceIte, QmY, Qm2]; first | refine Qh (htake _ _) (.keep (.v _)) ⟨by rw [e]; rfl, rfl⟩ | refine Qh List.take_length (.keep (.v _)) ⟨by rw [e]; rfl, rfl⟩
 ·rw [decide_eq_false hw] at c
  have e : decide (Qb2 1 s) = false := decide_eq_false fun h => hw ⟨h.1, h.2.1, h.2.2.2⟩
  refine Qe Tryz.func64 rfl Tryz.call64 Tryz.ntmps64 (congrArg Array.toList Tryz.results64) (by simp) ?_
  repeat (first | ((first | (with_reducible (first | refine Qa fun K E hK hE => ?_ | refine Qz c ?_))); simp -implicitDefEqProofs only [Qd, Qb, Qf, OpW, QQ, aop, undef, AS.ev, Qc, Qt, Qg, Qv, QmZ, ↓reduceIte, Nat.reduceLT, Nat.reduceEqDiff, QmS, QmT, QmX, QmV, Qm7, Qnb, QmW, beq_true]) | (with_reducible refine Qm ?_) | ((with_reducible refine hK _ ?_); clear hK))
  simp only [QN, Qp, Qw, upd, ↓reduceIte, QmY, Qm2]; first | refine Qh (htake _ _) (.keep (.v _)) ⟨by rw [e]; rfl, rfl⟩ | refine Qh List.take_length (.keep (.v _)) ⟨by rw [e]; rfl, rfl⟩
end Go.Proofs.YtehjodmnajgdgaaGreatDoor.Ab
set_option maxRecDepth 4000
namespace Go.Proofs.YtehjodmnajgdgaaGreatDoor.Ab
open Go.Proofs Go.RowKit
def opB (s : ByteArray) : Bool := (s.toList == ({ data := #[43] } : ByteArray).toList) || (s.toList == ({ data := #[45] } : ByteArray).toList) || (s.toList == ({ data := #[42] } : ByteArray).toList) || (s.toList == ({ data := #[47] } : ByteArray).toList) || (s.toList == ({ data := #[37] } : ByteArray).toList)
theorem QcX (s : ByteArray) : Pure Tryz.prog 103 [.v (.string s)] (.b (opB s)) := by
  intro h
  cases d0 : (s.toList == ({ data := #[43] } : ByteArray).toList) with
  | true =>
    refine Qe Tryz.func103 rfl Tryz.call103 Tryz.ntmps103 (congrArg Array.toList Tryz.results103) (by simp) ?_
    iterate 3 (try (first | (((with_reducible refine Qa fun K E hK hE => ?_)); simp -implicitDefEqProofs only [Qd, Qb, Qf, OpW, aop, AS.ev, Qc, Qt, Nat.reduceLT]) | (with_reducible refine Qi fun K hK => ?_) | ((with_reducible refine hK _ ?_); clear hK)))
    (with_reducible refine Qr fun K E hK hE => ?_)
    (try simp only [Qnt]); refine Qy 4 (fun K1 hK1 => ?_); simp -implicitDefEqProofs only [Qd, Qb, Qf, OpW, aop, undef, AS.ev, Qc, QO, Qg, Qv, QmZ, Qnf, ↓reduceIte, Nat.reduceLT, Nat.reduceEqDiff, aBin, QmS, QmT, QmU, QmX, QmV, Qm3, Qna, QY, beq_false, d0]; refine hK1 _ ?_; clear hK1
    (try simp only [Qm1, Qm9]); refine Qy 4 (fun K1 hK1 => ?_); simp -implicitDefEqProofs only [Qd, Qb, Qf, OpW, aop, undef, AS.ev, Qc, Qt, Qg, Qnf, ↓reduceIte, Nat.reduceLT, Nat.reduceEqDiff, QmS, QmT, QmX, QmV, Qm3, Qna, beq_false]; refine hK1 _ ?_; clear hK1
    (try simp only [Qm1, Qm9]); refine Qy 4 (fun K1 hK1 => ?_); simp -implicitDefEqProofs only [Qd, Qb, Qf, OpW, aop, undef, AS.ev, Qc, Qt, Qg, Qnf, ↓reduceIte, Nat.reduceLT, Nat.reduceEqDiff, QmS, QmT, QmX, QmV, Qm3, Qna, beq_false]; refine hK1 _ ?_; clear hK1
    (try simp only [Qm1, Qm9]); refine Qy 4 (fun K1 hK1 => ?_); simp -implicitDefEqProofs only [Qd, Qb, Qf, OpW, aop, undef, AS.ev, Qc, Qt, Qg, Qnf, ↓reduceIte, Nat.reduceLT, Nat.reduceEqDiff, QmS, QmT, QmX, QmV, Qm3, Qna, beq_false]; refine hK1 _ ?_; clear hK1
    (try simp only [Qm1, Qm9])
    simp -implicitDefEqProofs only [Qd, Qb, Qf, OpW, aop, undef, AS.ev, Qc, Qt, Qg, Qnf, ↓reduceIte, Nat.reduceLT, Nat.reduceEqDiff, QmS, QmT, QmX, QmV, beq_false]
    repeat (first | (with_reducible (first | refine Qm ?_ | refine Qj ?_)) | ((with_reducible refine hK _ ?_); clear hK))
    simp only [QN, Qp, Qw, upd, ↓reduceIte, QmY, Qm2]; first | refine Qh (htake _ _) (.keep (.v _)) ⟨by simp only [opB, d0, Bool.true_or], rfl⟩ | refine Qh List.take_length (.keep (.v _)) ⟨by simp only [opB, d0, Bool.true_or], rfl⟩
  | false =>
    cases d1 : (s.toList == ({ data := #[45] } : ByteArray).toList) with
    | true =>
      refine Qe Tryz.func103 rfl Tryz.call103 Tryz.ntmps103 (congrArg Array.toList Tryz.results103) (by simp) ?_
      iterate 3 (try (first | (((with_reducible refine Qa fun K E hK hE => ?_)); simp -implicitDefEqProofs only [Qd, Qb, Qf, OpW, aop, AS.ev, Qc, Qt, Nat.reduceLT]) | (with_reducible refine Qi fun K hK => ?_) | ((with_reducible refine hK _ ?_); clear hK)))
      (with_reducible refine Qr fun K E hK hE => ?_)
      (try simp only [Qnt]); refine Qy 4 (fun K1 hK1 => ?_); simp -implicitDefEqProofs only [Qd, Qb, Qf, OpW, aop, undef, AS.ev, Qc, QO, Qg, Qv, QmZ, ↓reduceIte, Nat.reduceLT, Nat.reduceEqDiff, aBin, QmS, QmT, QmU, QmX, QmV, Qm3, Qna, QY, Qm0, d0]; refine hK1 _ ?_; clear hK1
      (try simp only [Qm1, Qm9]); refine Qy 4 (fun K1 hK1 => ?_); simp -implicitDefEqProofs only [Qd, Qb, Qf, OpW, aop, undef, AS.ev, Qc, QO, Qg, Qnf, ↓reduceIte, Nat.reduceLT, Nat.reduceEqDiff, aBin, QmS, QmT, QmU, QmX, QmV, Qm3, Qna, QY, Qm0, QmW, beq_false, d1]; refine hK1 _ ?_; clear hK1
      (try simp only [Qm1, Qm9]); refine Qy 4 (fun K1 hK1 => ?_); simp -implicitDefEqProofs only [Qd, Qb, Qf, OpW, aop, undef, AS.ev, Qc, Qt, Qg, Qnf, ↓reduceIte, Nat.reduceLT, Nat.reduceEqDiff, QmS, QmT, QmX, QmV, Qm3, Qna, beq_false]; refine hK1 _ ?_; clear hK1
      (try simp only [Qm1, Qm9]); refine Qy 4 (fun K1 hK1 => ?_); simp -implicitDefEqProofs only [Qd, Qb, Qf, OpW, aop, undef, AS.ev, Qc, Qt, Qg, Qnf, ↓reduceIte, Nat.reduceLT, Nat.reduceEqDiff, QmS, QmT, QmX, QmV, Qm3, Qna, beq_false]; refine hK1 _ ?_; clear hK1
      (try simp only [Qm1, Qm9])
      simp -implicitDefEqProofs only [Qd, Qb, Qf, OpW, aop, undef, AS.ev, Qc, Qt, Qg, Qnf, ↓reduceIte, Nat.reduceLT, Nat.reduceEqDiff, QmS, QmT, QmX, QmV, beq_false]
      repeat (first | (with_reducible (first | refine Qm ?_ | refine Qj ?_)) | ((with_reducible refine hK _ ?_); clear hK))
      simp only [QN, Qp, Qw, upd, ↓reduceIte, QmY, Qm2]; first | refine Qh (htake _ _) (.keep (.v _)) ⟨by simp only [opB, d0, d1, Bool.or_true, Bool.true_or], rfl⟩ | refine Qh List.take_length (.keep (.v _)) ⟨by simp only [opB, d0, d1, Bool.or_true, Bool.true_or], rfl⟩
    | false =>
      cases d2 : (s.toList == ({ data := #[42] } : ByteArray).toList) with
      | true =>
        refine Qe Tryz.func103 rfl Tryz.call103 Tryz.ntmps103 (congrArg Array.toList Tryz.results103) (by simp) ?_
        iterate 3 (try (first | (((with_reducible refine Qa fun K E hK hE => ?_)); simp -implicitDefEqProofs only [Qd, Qb, Qf, OpW, aop, AS.ev, Qc, Qt, Nat.reduceLT]) | (with_reducible refine Qi fun K hK => ?_) | ((with_reducible refine hK _ ?_); clear hK)))
        (with_reducible refine Qr fun K E hK hE => ?_)
        (try simp only [Qnt]); refine Qy 4 (fun K1 hK1 => ?_); simp -implicitDefEqProofs only [Qd, Qb, Qf, OpW, aop, undef, AS.ev, Qc, QO, Qg, Qv, QmZ, ↓reduceIte, Nat.reduceLT, Nat.reduceEqDiff, aBin, QmS, QmT, QmU, QmX, QmV, Qm3, Qna, QY, Qm0, d0]; refine hK1 _ ?_; clear hK1
        (try simp only [Qm1, Qm9]); refine Qy 4 (fun K1 hK1 => ?_); simp -implicitDefEqProofs only [Qd, Qb, Qf, OpW, aop, undef, AS.ev, Qc, QO, Qg, Qv, QmZ, ↓reduceIte, Nat.reduceLT, Nat.reduceEqDiff, aBin, QmS, QmT, QmU, QmX, QmV, Qm3, Qna, QY, Qm0, QmW, d1]; refine hK1 _ ?_; clear hK1
        (try simp only [Qm1, Qm9]); refine Qy 4 (fun K1 hK1 => ?_); simp -implicitDefEqProofs only [Qd, Qb, Qf, OpW, aop, undef, AS.ev, Qc, QO, Qg, Qnf, ↓reduceIte, Nat.reduceLT, Nat.reduceEqDiff, aBin, QmS, QmT, QmU, QmX, QmV, Qm3, Qna, QY, Qm0, QmW, beq_false, d2]; refine hK1 _ ?_; clear hK1
        (try simp only [Qm1, Qm9]); refine Qy 4 (fun K1 hK1 => ?_); simp -implicitDefEqProofs only [Qd, Qb, Qf, OpW, aop, undef, AS.ev, Qc, Qt, Qg, Qnf, ↓reduceIte, Nat.reduceLT, Nat.reduceEqDiff, QmS, QmT, QmX, QmV, Qm3, Qna, beq_false]; refine hK1 _ ?_; clear hK1
        (try simp only [Qm1, Qm9])
        simp -implicitDefEqProofs only [Qd, Qb, Qf, OpW, aop, undef, AS.ev, Qc, Qt, Qg, Qnf, ↓reduceIte, Nat.reduceLT, Nat.reduceEqDiff, QmS, QmT, QmX, QmV, beq_false]
        repeat (first | (with_reducible (first | refine Qm ?_ | refine Qj ?_)) | ((with_reducible refine hK _ ?_); clear hK))
        simp only [QN, Qp, Qw, upd, ↓reduceIte, QmY, Qm2]; first | refine Qh (htake _ _) (.keep (.v _)) ⟨by simp only [opB, d0, d1, d2, Bool.or_false, Bool.or_true, Bool.true_or], rfl⟩ | refine Qh List.take_length (.keep (.v _)) ⟨by simp only [opB, d0, d1, d2, Bool.or_false, Bool.or_true, Bool.true_or], rfl⟩
      | false =>
        cases d3 : (s.toList == ({ data := #[47] } : ByteArray).toList) with
        | true =>
          refine Qe Tryz.func103 rfl Tryz.call103 Tryz.ntmps103 (congrArg Array.toList Tryz.results103) (by simp) ?_
          iterate 3 (try (first | (((with_reducible refine Qa fun K E hK hE => ?_)); simp -implicitDefEqProofs only [Qd, Qb, Qf, OpW, aop, AS.ev, Qc, Qt, Nat.reduceLT]) | (with_reducible refine Qi fun K hK => ?_) | ((with_reducible refine hK _ ?_); clear hK)))
          (with_reducible refine Qr fun K E hK hE => ?_)
          (try simp only [Qnt]); refine Qy 4 (fun K1 hK1 => ?_); simp -implicitDefEqProofs only [Qd, Qb, Qf, OpW, aop, undef, AS.ev, Qc, QO, Qg, Qv, QmZ, ↓reduceIte, Nat.reduceLT, Nat.reduceEqDiff, aBin, QmS, QmT, QmU, QmX, QmV, Qm3, Qna, QY, Qm0, d0]; refine hK1 _ ?_; clear hK1
          (try simp only [Qm1, Qm9]); refine Qy 4 (fun K1 hK1 => ?_); simp -implicitDefEqProofs only [Qd, Qb, Qf, OpW, aop, undef, AS.ev, Qc, QO, Qg, Qv, QmZ, ↓reduceIte, Nat.reduceLT, Nat.reduceEqDiff, aBin, QmS, QmT, QmU, QmX, QmV, Qm3, Qna, QY, Qm0, QmW, d1]; refine hK1 _ ?_; clear hK1
          (try simp only [Qm1, Qm9]); refine Qy 4 (fun K1 hK1 => ?_); simp -implicitDefEqProofs only [Qd, Qb, Qf, OpW, aop, undef, AS.ev, Qc, QO, Qg, Qv, QmZ, ↓reduceIte, Nat.reduceLT, Nat.reduceEqDiff, aBin, QmS, QmT, QmU, QmX, QmV, Qm3, Qna, QY, Qm0, QmW, d2]; refine hK1 _ ?_; clear hK1
          (try simp only [Qm1, Qm9]); refine Qy 4 (fun K1 hK1 => ?_); simp -implicitDefEqProofs only [Qd, Qb, Qf, OpW, aop, undef, AS.ev, Qc, QO, Qg, Qnf, ↓reduceIte, Nat.reduceLT, Nat.reduceEqDiff, aBin, QmS, QmT, QmU, QmX, QmV, Qm3, Qna, QY, Qm0, QmW, beq_false, d3]; refine hK1 _ ?_; clear hK1
          (try simp only [Qm1, Qm9])
          simp -implicitDefEqProofs only [Qd, Qb, Qf, OpW, aop, undef, AS.ev, Qc, Qt, Qg, Qnf, ↓reduceIte, Nat.reduceLT, Nat.reduceEqDiff, QmS, QmT, QmX, QmV, beq_false]
          repeat (first | (with_reducible (first | refine Qm ?_ | refine Qj ?_)) | ((with_reducible refine hK _ ?_); clear hK))
          simp only [QN, Qp, Qw, upd, ↓reduceIte, QmY, Qm2]; first | refine Qh (htake _ _) (.keep (.v _)) ⟨by simp only [opB, d0, d1, d2, d3, Bool.or_false, Bool.or_true, Bool.true_or], rfl⟩ | refine Qh List.take_length (.keep (.v _)) ⟨by simp only [opB, d0, d1, d2, d3, Bool.or_false, Bool.or_true, Bool.true_or], rfl⟩
        | false =>
          cases d4 : (s.toList == ({ data := #[37] } : ByteArray).toList) with
          | true =>
            refine Qe Tryz.func103 rfl Tryz.call103 Tryz.ntmps103 (congrArg Array.toList Tryz.results103) (by simp) ?_
            iterate 3 (try (first | (((with_reducible refine Qa fun K E hK hE => ?_)); simp -implicitDefEqProofs only [Qd, Qb, Qf, OpW, aop, AS.ev, Qc, Qt, Nat.reduceLT]) | (with_reducible refine Qi fun K hK => ?_) | ((with_reducible refine hK _ ?_); clear hK)))
            (with_reducible refine Qr fun K E hK hE => ?_)
            (try simp only [Qnt]); refine Qy 4 (fun K1 hK1 => ?_); simp -implicitDefEqProofs only [Qd, Qb, Qf, OpW, aop, undef, AS.ev, Qc, QO, Qg, Qv, QmZ, ↓reduceIte, Nat.reduceLT, Nat.reduceEqDiff, aBin, QmS, QmT, QmU, QmX, QmV, Qm3, Qna, QY, Qm0, d0]; refine hK1 _ ?_; clear hK1
            (try simp only [Qm1, Qm9]); refine Qy 4 (fun K1 hK1 => ?_); simp -implicitDefEqProofs only [Qd, Qb, Qf, OpW, aop, undef, AS.ev, Qc, QO, Qg, Qv, QmZ, ↓reduceIte, Nat.reduceLT, Nat.reduceEqDiff, aBin, QmS, QmT, QmU, QmX, QmV, Qm3, Qna, QY, Qm0, QmW, d1]; refine hK1 _ ?_; clear hK1
            (try simp only [Qm1, Qm9]); refine Qy 4 (fun K1 hK1 => ?_); simp -implicitDefEqProofs only [Qd, Qb, Qf, OpW, aop, undef, AS.ev, Qc, QO, Qg, Qv, QmZ, ↓reduceIte, Nat.reduceLT, Nat.reduceEqDiff, aBin, QmS, QmT, QmU, QmX, QmV, Qm3, Qna, QY, Qm0, QmW, d2]; refine hK1 _ ?_; clear hK1
            (try simp only [Qm1, Qm9]); refine Qy 4 (fun K1 hK1 => ?_); simp -implicitDefEqProofs only [Qd, Qb, Qf, OpW, aop, undef, AS.ev, Qc, QO, Qg, Qv, QmZ, ↓reduceIte, Nat.reduceLT, Nat.reduceEqDiff, aBin, QmS, QmT, QmU, QmX, QmV, Qm3, Qna, QY, Qm0, QmW, d3]; refine hK1 _ ?_; clear hK1
            (try simp only [Qm1, Qm9])
            simp -implicitDefEqProofs only [Qd, Qb, Qf, OpW, aop, AS.ev, Qc, QO, Qg, ↓reduceIte, Nat.reduceLT, Nat.reduceEqDiff, aBin, QmS, QmT, QmU, QmX, QmV, QY, Qm0, QmW, d4]
            repeat (first | (with_reducible (first | refine Qm ?_ | refine Qj ?_)) | ((with_reducible refine hK _ ?_); clear hK))
            simp only [QN, Qp, Qw, upd, ↓reduceIte, QmY, Qm2]; first | refine Qh (htake _ _) (.keep (.v _)) ⟨by simp only [opB, d0, d1, d2, d3, d4, Bool.or_false, Bool.or_true], rfl⟩ | refine Qh List.take_length (.keep (.v _)) ⟨by simp only [opB, d0, d1, d2, d3, d4, Bool.or_false, Bool.or_true], rfl⟩
          | false =>
            refine Qe Tryz.func103 rfl Tryz.call103 Tryz.ntmps103 (congrArg Array.toList Tryz.results103) (by simp) ?_
            iterate 3 (try (first | (((with_reducible refine Qa fun K E hK hE => ?_)); simp -implicitDefEqProofs only [Qd, Qb, Qf, OpW, aop, AS.ev, Qc, Qt, Nat.reduceLT]) | (with_reducible refine Qi fun K hK => ?_) | ((with_reducible refine hK _ ?_); clear hK)))
            (with_reducible refine Qr fun K E hK hE => ?_)
            (try simp only [Qnt]); refine Qy 4 (fun K1 hK1 => ?_); simp -implicitDefEqProofs only [Qd, Qb, Qf, OpW, aop, undef, AS.ev, Qc, QO, Qg, Qv, QmZ, ↓reduceIte, Nat.reduceLT, Nat.reduceEqDiff, aBin, QmS, QmT, QmU, QmX, QmV, Qm3, Qna, QY, Qm0, d0]; refine hK1 _ ?_; clear hK1
            (try simp only [Qm1, Qm9]); refine Qy 4 (fun K1 hK1 => ?_); simp -implicitDefEqProofs only [Qd, Qb, Qf, OpW, aop, undef, AS.ev, Qc, QO, Qg, Qv, QmZ, ↓reduceIte, Nat.reduceLT, Nat.reduceEqDiff, aBin, QmS, QmT, QmU, QmX, QmV, Qm3, Qna, QY, Qm0, QmW, d1]; refine hK1 _ ?_; clear hK1
            (try simp only [Qm1, Qm9]); refine Qy 4 (fun K1 hK1 => ?_); simp -implicitDefEqProofs only [Qd, Qb, Qf, OpW, aop, undef, AS.ev, Qc, QO, Qg, Qv, QmZ, ↓reduceIte, Nat.reduceLT, Nat.reduceEqDiff, aBin, QmS, QmT, QmU, QmX, QmV, Qm3, Qna, QY, Qm0, QmW, d2]; refine hK1 _ ?_; clear hK1
            (try simp only [Qm1, Qm9]); refine Qy 4 (fun K1 hK1 => ?_); simp -implicitDefEqProofs only [Qd, Qb, Qf, OpW, aop, undef, AS.ev, Qc, QO, Qg, Qv, QmZ, ↓reduceIte, Nat.reduceLT, Nat.reduceEqDiff, aBin, QmS, QmT, QmU, QmX, QmV, Qm3, Qna, QY, Qm0, QmW, d3]; refine hK1 _ ?_; clear hK1
            (try simp only [Qm1, Qm9])
            simp -implicitDefEqProofs only [Qd, Qb, Qf, OpW, aop, AS.ev, Qc, QO, Qg, ↓reduceIte, Nat.reduceLT, Nat.reduceEqDiff, aBin, QmS, QmT, QmU, QmX, QmV, QY, Qm0, QmW, d4]
            repeat (first | (with_reducible (first | refine Qm ?_ | refine Qj ?_)) | ((with_reducible refine hK _ ?_); clear hK))
            simp only [QN, Qp, Qw, upd, ↓reduceIte, QmY, Qm2]; first | refine Qh (htake _ _) (.keep (.v _)) ⟨by simp only [opB, d0, d1, d2, d3, d4, Bool.or_false], rfl⟩ | refine Qh List.take_length (.keep (.v _)) ⟨by simp only [opB, d0, d1, d2, d3, d4, Bool.or_false], rfl⟩
theorem QlB : ∀ n : Fin 256, decide (0 ≤ Lib.indexByte [43, 45, 42, 47, 37] (UInt8.ofNat n.val)) = (([UInt8.ofNat n.val] == [43]) || ([UInt8.ofNat n.val] == [45]) || ([UInt8.ofNat n.val] == [42]) || ([UInt8.ofNat n.val] == [47]) || ([UInt8.ofNat n.val] == [37])) := by decide +kernel
theorem QlZ (c : UInt8) : decide (0 ≤ Lib.indexByte [43, 45, 42, 47, 37] c) = opB { data := #[c] } := by
  have := QlB ⟨c.toNat, c.toNat_lt⟩
  simp only [UInt8.ofNat_toNat] at this
  rw [this, opB]
  simp only [Lib.toList_data]
theorem Qfw (c : UInt8) : Pure Tryz.prog 124 [.v (.string { data := #[43, 45, 42, 47, 37] }), .v (.string { data := #[c] })] (.b (opB { data := #[c] })) := by
  rw [← QlZ]
  exact QeO (vs := [.string { data := #[43, 45, 42, 47, 37] }, .string { data := #[c] }]) Tryz.call124 fun w => (Tryz.strings_Contains_one _ c w).mono (by rintro e w' ⟨rfl, rfl⟩; exact ⟨_, rfl, Go.RowKit.Below.refl _ _, fun _ => .v _⟩)
theorem one_byte {s : ByteArray} (h : s.size = 1) : ∃ c, s = { data := #[c] } := by
  obtain ⟨⟨l⟩⟩ := s
  match l, h with
  | [c], _ => exact ⟨c, rfl⟩
theorem Qfm {s : ByteArray} (h : s.size ≠ 1) : opB s = false := by
  have : ∀ c : UInt8, (s.toList == [c]) = false := fun c => by
    rw [Lib.toList_data, beq_eq_false_iff_ne]
    intro e
    exact h (by rw [Lib.size_eq, e]; rfl)
  have t : ∀ c : UInt8, ({ data := #[c] } : ByteArray).toList = [c] := fun c => Lib.toList_data _
  simp only [opB, t, this, Bool.or_false]
theorem Qfb (s : ByteArray) : Pure Tryz.prog 108 [.v (.string s)] (.b (opB s)) := by
  intro h
  have hsl := fun b => Yf Tryz.prog 9 3 (by kernel_rfl) b
  by_cases n1 : s.size = 1
  · have m1 : ((s.size : Int) == 1) = true := by simp [n1]
    obtain ⟨c, rfl⟩ := one_byte n1
    have cc := Qfw c
    refine Qe Tryz.func108 rfl Tryz.call108 Tryz.ntmps108 (congrArg Array.toList Tryz.results108) (by simp) ?_
    repeat (first | ((first | (with_reducible (first | refine Qa fun K E hK hE => ?_ | refine Qz cc ?_))); simp -implicitDefEqProofs only [Qd, Qb, Qf, OpW, QQ, aop, undef, AS.ev, Qc, Qn, Qt, QO, Qg, Qv, QmZ, ↓reduceIte, Nat.reduceLT, Nat.reduceEqDiff, aBin, aLen, QmS, QmT, QmU, QmX, QmV, Qm7, Qnb, QR, goInt, Qm0, hsl, m1]) | (with_reducible refine Qm ?_) | ((with_reducible refine hK _ ?_); clear hK))
    simp only [QN, Qp, Qw, upd, ↓reduceIte, QmY, Qm2]; first | refine Qh (htake _ _) (.keep (.v _)) ⟨rfl, rfl⟩ | refine Qh List.take_length (.keep (.v _)) ⟨rfl, rfl⟩
  · have m1 : ((s.size : Int) == 1) = false := by simp; omega
    refine Qe Tryz.func108 rfl Tryz.call108 Tryz.ntmps108 (congrArg Array.toList Tryz.results108) (by simp) ?_
    repeat (first | (((with_reducible refine Qa fun K E hK hE => ?_)); simp -implicitDefEqProofs only [Qd, Qb, Qf, OpW, aop, undef, AS.ev, Qc, Qn, Qt, Qg, Qv, QmZ, ↓reduceIte, Nat.reduceLT, Nat.reduceEqDiff, aBin, aLen, QmS, QmT, QmU, QmX, QmV, QR, goInt, QmW, beq_true, hsl, m1]) | (with_reducible refine Qm ?_) | ((with_reducible refine hK _ ?_); clear hK))
    simp only [QN, Qp, Qw, upd, ↓reduceIte, QmY, Qm2]; first | refine Qh (htake _ _) (.keep (.v _)) ⟨by rw [Qfm n1], rfl⟩ | refine Qh List.take_length (.keep (.v _)) ⟨by rw [Qfm n1], rfl⟩
def begV (s : ByteArray) : Bool := decide (1 ≤ s.size ∧ byteAt s 0 = 86)
theorem Qko (s : ByteArray) (h : 1 ≤ s.size) : ((s.extract 0 1).toList == ({ data := #[86] } : ByteArray).toList) = begV s := by
  rw [Lib.extract_toList, Lib.toList_data, begV]
  simp only [Qm9, Nat.sub_zero]
  have hl : s.data.toList.length = s.size := (Lib.size_eq s).symm
  unfold byteAt
  match hx : s.data.toList, hl with
  | [], hl => simp at hl; omega
  | c :: l, hl =>
    simp only [Qm3, Qna, QmZ]
    by_cases hc : c = 86
    · subst hc; simp; omega
    · have : ¬ ((c.toNat : Nat) : Int) = 86 := fun e => hc (by
        have e' : c.toNat = (86 : UInt8).toNat := by simpa using (by omega : c.toNat = 86)
        exact UInt8.toNat_inj.1 e')
      simp [hc, this]
theorem Qd7 (s : ByteArray) : Pure Tryz.prog 149 [.v (.string s), .v (.string { data := #[86] })] (.b (begV s)) := by
  intro h
  have hsl := fun b => Yf Tryz.prog 9 3 (by kernel_rfl) b
  have z1 : (({ data := #[86] } : ByteArray).size : Int) = 1 := rfl
  by_cases n1 : 1 ≤ s.size
  · have m1 : (s.size : Int) ≥ 1 := by omega
    have hp : pv Tryz.prog (Instr.sliceAt 9 (.string s) none (some (.int .i64 1)) none) = some (.string (s.extract 0 1)) :=
      Qbs Tryz.prog 9 (by kernel_rfl) s none (some (.i64, 1)) 0 1 ⟨by omega, by omega, rfl⟩ rfl
    have hz := Qko s n1
    refine Qe Tryz.func149 rfl Tryz.call149 Tryz.ntmps149 (congrArg Array.toList Tryz.results149) (by simp) ?_
    repeat (first | (((with_reducible refine Qa fun K E hK hE => ?_)); simp -implicitDefEqProofs only [Qd, Qb, Qf, OpW, aop, undef, AS.ev, Qc, Qt, Qg, Qv, QmZ, Qni, ↓reduceIte, Nat.reduceLT, Nat.reduceEqDiff, aBin, YF, aLen, QmS, QmT, QmU, Qnx, QmX, QmV, Xi, QY, goInt, Qno, Qm0, ei9, hsl, z1, m1, hp, hz]) | (with_reducible refine Qm ?_) | ((with_reducible refine hK _ ?_); clear hK))
    simp only [QN, Qp, Qw, upd, ↓reduceIte, QmY, Qm2]; first | refine Qh (htake _ _) (.keep (.v _)) ⟨rfl, rfl⟩ | refine Qh List.take_length (.keep (.v _)) ⟨rfl, rfl⟩
  · have m1 : ¬ (s.size : Int) ≥ 1 := by omega
    refine Qe Tryz.func149 rfl Tryz.call149 Tryz.ntmps149 (congrArg Array.toList Tryz.results149) (by simp) ?_
    repeat (first | (((with_reducible refine Qa fun K E hK hE => ?_)); simp -implicitDefEqProofs only [Qd, Qb, Qf, OpW, aop, undef, AS.ev, Qc, Qt, Qg, Qv, QmZ, Qni, ↓reduceIte, Nat.reduceLT, Nat.reduceEqDiff, aBin, aLen, QmS, QmT, QmU, QmX, QmV, Xi, goInt, Qnp, QmW, beq_true, hsl, z1, m1]) | (with_reducible refine Qm ?_) | ((with_reducible refine hK _ ?_); clear hK))
    simp only [QN, Qp, Qw, upd, ↓reduceIte, QmY, Qm2]; first | refine Qh (htake _ _) (.keep (.v _)) ⟨by rw [begV, decide_eq_false (fun h => n1 h.1)], rfl⟩ | refine Qh List.take_length (.keep (.v _)) ⟨by rw [begV, decide_eq_false (fun h => n1 h.1)], rfl⟩
def cutV (s : ByteArray) : ByteArray := if begV s = true then s.extract 1 s.size else s
theorem Qdv (s : ByteArray) : Pure Tryz.prog 136 [.v (.string s), .v (.string { data := #[86] })] (.tup [.v (.string (cutV s)), .b (begV s)]) := by
  intro h
  have hsl := fun b => Yf Tryz.prog 9 3 (by kernel_rfl) b
  have z1 : (({ data := #[86] } : ByteArray).size : Int) = 1 := rfl
  have c := Qd7 s
  cases hb : begV s with
  | true =>
    rw [hb] at c
    have hn : 1 ≤ s.size := by simp only [begV, decide_eq_true_eq] at hb; exact hb.1
    have hp : pv Tryz.prog (Instr.sliceAt 9 (.string s) (some (.int .i64 1)) none none) = some (.string (s.extract 1 s.size)) := Qc9 Tryz.prog 9 (by kernel_rfl) s 1 hn
    refine Qe Tryz.func136 rfl Tryz.call136 Tryz.ntmps136 (congrArg Array.toList Tryz.results136) (by simp) ?_
    repeat (first | ((first | (with_reducible (first | refine Qa fun K E hK hE => ?_ | refine Qz c ?_))); simp -implicitDefEqProofs only [Qd, Qb, Qf, OpW, QQ, aop, undef, AS.ev, Qc, Qt, QO, Qg, Qv, QmZ, Qni, Qnf, ↓reduceIte, Nat.reduceLT, Nat.reduceEqDiff, YF, aLen, QmU, Qnx, Qm7, Qnb, Xp, goInt, ei9, hsl, z1, hp]) | (with_reducible (first | refine Qi fun K hK => ?_ | refine Qm ?_ | refine QD ?_ | refine Qj ?_)) | ((with_reducible refine hK _ ?_); clear hK) | (refine Qk rfl ?_; simp only [↓reduceIte, QmW]))
    simp -implicitDefEqProofs only [Qg, ↓reduceIte, Nat.reduceEqDiff, QmU, QmX, QmY, List.mapM_cons, List.mapM_nil, Option.pure_def, Option.bind_eq_bind, QN, Qp, Qw, Qm2]
    exact Qh List.take_length (.tup rfl (Xd (.keep (.v _)) (XS (.keep (.v _))))) ⟨by rw [cutV, if_pos hb], rfl⟩
  | false =>
    rw [hb] at c
    refine Qe Tryz.func136 rfl Tryz.call136 Tryz.ntmps136 (congrArg Array.toList Tryz.results136) (by simp) ?_
    repeat (first | ((first | (with_reducible (first | refine Qa fun K E hK hE => ?_ | refine Qz c ?_))); simp -implicitDefEqProofs only [Qd, Qb, Qf, OpW, QQ, aop, undef, AS.ev, Qc, Qt, QO, Qg, Qv, QmZ, Qni, Qng, ↓reduceIte, Nat.reduceLT, Nat.reduceEqDiff, QmU, Qm7, Qnb, Xp]) | (with_reducible (first | refine Qi fun K hK => ?_ | refine Qm ?_ | refine QA ?_)) | ((with_reducible refine hK _ ?_); clear hK) | (refine Qk rfl ?_; simp only [↓reduceIte]))
    simp -implicitDefEqProofs only [Qg, ↓reduceIte, Nat.reduceEqDiff, QmU, QmX, QmY, List.mapM_cons, List.mapM_nil, Option.pure_def, Option.bind_eq_bind, QN, Qp, Qw, Qm2]
    exact Qh List.take_length (.tup rfl (Xd (.keep (.v _)) (XS (.keep (.v _))))) ⟨by rw [cutV, if_neg (by rw [hb]; simp)], rfl⟩
theorem Qae (s : ByteArray) : Pure Tryz.prog 118 [.v (.string s), .v (.string { data := #[86] })] (.tup [.v (.string (cutV s)), .b (begV s)]) := by
  intro h
  have c := Qdv s
  refine Qe Tryz.func118 rfl Tryz.call118 Tryz.ntmps118 (congrArg Array.toList Tryz.results118) (by simp) ?_
  repeat (first | ((first | (with_reducible (first | refine Qa fun K E hK hE => ?_ | refine Qz c ?_))); simp -implicitDefEqProofs only [Qd, Qb, Qf, OpW, QQ, aop, undef, AS.ev, Qc, Qt, QO, Qg, Qv, QmZ, Qni, ↓reduceIte, Nat.reduceLT, Nat.reduceEqDiff, Xs, QmS, QmT, QmU, Qm7, Qnb]) | (with_reducible refine Qm ?_) | ((with_reducible refine hK _ ?_); clear hK))
  simp -implicitDefEqProofs only [Qg, ↓reduceIte, Nat.reduceEqDiff, QmU, QmX, QmY, List.mapM_cons, List.mapM_nil, Option.pure_def, Option.bind_eq_bind, QN, Qp, Qw, Qm2]
  exact Qh List.take_length (.tup rfl (Xd (.keep (.v _)) (XS (.keep (.v _))))) ⟨rfl, rfl⟩
def vOf (t : ByteArray) : ByteArray := ({ data := #[86] } : ByteArray) ++ t
theorem Qkx (n : Int) (h0 : 0 ≤ n) (h1 : n ≤ 1048576) (t : ByteArray) (ht : t.size ≤ 1000) (h : AH) (H : Xf Tryz.prog 72 [.i n] h fun o h' => o = .ret (.v (.string t)) ∧ h' = h) : Xf Tryz.prog 73 [.i n] h fun o h' => o = .ret (.v (.string (vOf t))) ∧ h' = h := by
  have m0 : ¬ n < 0 := by omega
  have m1 : ¬ n > 1048576 := by omega
  have hsa := fun xo yo => QbL Tryz.prog 9 xo yo ({ data := #[86] } : ByteArray) t (by show 1 + t.size ≤ _; omega)
  refine Qe Tryz.func73 rfl Tryz.call73 Tryz.ntmps73 (congrArg Array.toList Tryz.results73) (by simp) ?_
  repeat (first | ((first | (with_reducible (first | refine Qa fun K E hK hE => ?_ | refine FunW.ret (FunW.call H) ?_))); simp -implicitDefEqProofs only [Qd, Qb, Qf, OpW, QQ, aop, undef, AS.ev, Qc, Qn, QO, Qg, Qv, QmZ, ↓reduceIte, Nat.reduceLT, Nat.reduceEqDiff, aBin, QmS, QmT, QmU, QmX, QmV, Qm7, Qnb, Q3, Xr, Qnp, Qm0, QmW, m0, m1, hsa]) | (with_reducible (first | refine Qi fun K hK => ?_ | refine Qm ?_ | refine QD ?_ | refine Qj ?_)) | ((with_reducible refine hK _ ?_); clear hK) | (refine Qk rfl ?_; simp only [↓reduceIte, QmW]))
  simp only [QN, Qp, Qw, upd, ↓reduceIte, QmY, Qm2]; first | refine Qh (htake _ _) (.keep (.v _)) ⟨rfl, rfl⟩ | refine Qh List.take_length (.keep (.v _)) ⟨rfl, rfl⟩
theorem QkV (n : Int) (hn : n < 0 ∨ n > 1048576) : Pure Tryz.prog 73 [.i n] (.v (.string { data := #[] })) := by
  intro h
  by_cases m0 : n < 0
  · refine Qe Tryz.func73 rfl Tryz.call73 Tryz.ntmps73 (congrArg Array.toList Tryz.results73) (by simp) ?_
    repeat (first | (((with_reducible refine Qa fun K E hK hE => ?_)); simp -implicitDefEqProofs only [Qd, Qb, Qf, OpW, aop, undef, AS.ev, Qc, Qn, Qt, QO, Qg, Qv, QmZ, Qnf, ↓reduceIte, Nat.reduceLT, Nat.reduceEqDiff, aBin, QmS, QmT, QmU, QmX, QmV, Q3, Qno, beq_false, m0]) | (with_reducible (first | refine Qi fun K hK => ?_ | refine Qm ?_ | refine QA ?_)) | ((with_reducible refine hK _ ?_); clear hK) | (refine Qk rfl ?_; simp only [↓reduceIte]))
    simp only [QN, Qp, Qw, upd, ↓reduceIte, QmY, Qm2]; first | refine Qh (htake _ _) (.keep (.v _)) ⟨rfl, rfl⟩ | refine Qh List.take_length (.keep (.v _)) ⟨rfl, rfl⟩
  · have m1 : n > 1048576 := by omega
    refine Qe Tryz.func73 rfl Tryz.call73 Tryz.ntmps73 (congrArg Array.toList Tryz.results73) (by simp) ?_
    repeat (first | (((with_reducible refine Qa fun K E hK hE => ?_)); simp -implicitDefEqProofs only [Qd, Qb, Qf, OpW, aop, undef, AS.ev, Qc, Qn, QO, Qg, Qv, QmZ, ↓reduceIte, Nat.reduceLT, Nat.reduceEqDiff, aBin, QmS, QmT, QmU, QmX, QmV, Q3, Xr, Qno, Qnp, Qm0, QmW, m0, m1]) | (with_reducible (first | refine Qi fun K hK => ?_ | refine Qm ?_ | refine QA ?_)) | ((with_reducible refine hK _ ?_); clear hK) | (refine Qk rfl ?_; simp only [↓reduceIte]))
    simp only [QN, Qp, Qw, upd, ↓reduceIte, QmY, Qm2]; first | refine Qh (htake _ _) (.keep (.v _)) ⟨rfl, rfl⟩ | refine Qh List.take_length (.keep (.v _)) ⟨rfl, rfl⟩
theorem Qf1 (s : ByteArray) (hb : begV s = false ∨ (cutV s).size > 7) : Pure Tryz.prog 94 [.v (.string s)] (.tup [.i 0, .b false]) := by
  intro h
  have hsl := fun b => Yf Tryz.prog 9 3 (by kernel_rfl) b
  have c := Qae s
  cases hv : begV s with
  | false =>
    rw [hv] at c
    refine Qe Tryz.func94 rfl Tryz.call94 Tryz.ntmps94 (congrArg Array.toList Tryz.results94) (by simp) ?_
    repeat (first | ((first | (with_reducible (first | refine Qa fun K E hK hE => ?_ | refine Qz c ?_))); simp -implicitDefEqProofs only [Qd, Qb, Qf, OpW, QQ, aop, undef, AS.ev, Qc, Qn, Qt, QO, Qg, Qv, QmZ, Qnf, Qng, ↓reduceIte, Nat.reduceLT, Nat.reduceEqDiff, Xs, QmS, QmT, QmU, QmX, QmV, Qm7, Qnb, Xp, beq_false]) | (with_reducible (first | refine Qi fun K hK => ?_ | refine Qm ?_ | refine QA ?_)) | ((with_reducible refine hK _ ?_); clear hK) | (refine Qk rfl ?_; simp only [↓reduceIte]))
    simp -implicitDefEqProofs only [Qg, ↓reduceIte, Nat.reduceEqDiff, QmU, QmX, QmY, List.mapM_cons, List.mapM_nil, Option.pure_def, Option.bind_eq_bind, QN, Qp, Qw, Qm2]
    exact Qh List.take_length (.tup rfl (Xd (.keep (.v _)) (XS (.keep (.v _))))) ⟨rfl, rfl⟩
  | true =>
    rw [hv] at c
    have m1 : ((cutV s).size : Int) > 7 := by
      rcases hb with h | h
      · rw [hv] at h; cases h
      · omega
    refine Qe Tryz.func94 rfl Tryz.call94 Tryz.ntmps94 (congrArg Array.toList Tryz.results94) (by simp) ?_
    repeat (first | ((first | (with_reducible (first | refine Qa fun K E hK hE => ?_ | refine Qz c ?_))); simp -implicitDefEqProofs only [Qd, Qb, Qf, OpW, QQ, aop, undef, AS.ev, Qc, Qn, Qt, QO, Qg, Qv, QmZ, Qnf, ↓reduceIte, Nat.reduceLT, Nat.reduceEqDiff, aBin, Xs, aLen, QmS, QmT, QmU, QmX, QmV, Qm7, Qnb, Xr, Xp, goInt, Qno, Qm0, QmW, hsl, m1]) | (with_reducible (first | refine Qi fun K hK => ?_ | refine Qm ?_ | refine QA ?_)) | ((with_reducible refine hK _ ?_); clear hK) | (refine Qk rfl ?_; simp only [↓reduceIte]))
    simp -implicitDefEqProofs only [Qg, ↓reduceIte, Nat.reduceEqDiff, QmU, QmX, QmY, List.mapM_cons, List.mapM_nil, Option.pure_def, Option.bind_eq_bind, QN, Qp, Qw, Qm2]
    exact Qh List.take_length (.tup rfl (Xd (.keep (.v _)) (XS (.keep (.v _))))) ⟨rfl, rfl⟩
theorem QlK (xo : Operand) : pv Tryz.prog (do eqGuard .neq 63 xo (.const .nilIface) .nilIface .nilIface; binOp .neq 63 .nilIface .nilIface) = some (.bool false) := by
  cases xo <;> kernel_rfl
theorem QfG (s : ByteArray) (hb : begV s = true) (hn : (cutV s).size ≤ 7) (v : Int) (h : AH) (H : Xf Tryz.prog 119 [.v (.string (cutV s))] h fun o h' => o = .ret (.tup [.i v, .v .nilIface]) ∧ h' = h)
    (t : ByteArray) (HL : Xf Tryz.prog 73 [.i v] h fun o h' => o = .ret (.v (.string t)) ∧ h' = h) :
    Xf Tryz.prog 94 [.v (.string s)] h fun o h' => o = .ret (if (t.toList == s.toList) = true then .tup [.i v, .b true] else .tup [.i 0, .b false]) ∧ h' = h := by
  have hsl := fun b => Yf Tryz.prog 9 3 (by kernel_rfl) b
  have hnn : ∀ xo, pv Tryz.prog (do eqGuard .neq 63 xo (.const .nilIface) .nilIface .nilIface; binOp .neq 63 .nilIface .nilIface) = some (.bool false) := QlK
  have c := Qae s
  rw [hb] at c
  have m1 : ¬ ((cutV s).size : Int) > 7 := by omega
  cases ht : (t.toList == s.toList) with
  | true =>
    rw [if_pos rfl]
    refine Qe Tryz.func94 rfl Tryz.call94 Tryz.ntmps94 (congrArg Array.toList Tryz.results94) (by simp) ?_
    repeat (first | ((first | (with_reducible (first | refine Qa fun K E hK hE => ?_ | refine Qz c ?_ | refine FunW.ret (FunW.call H) ?_ | refine FunW.ret (FunW.call HL) ?_))); simp -implicitDefEqProofs only [Qd, Qb, Qf, OpW, QQ, aop, undef, AS.ev, Qc, Qn, Qt, QO, Xh, Qg, Qv, QmZ, Qnf, ↓reduceIte, Nat.reduceLT, Nat.reduceEqDiff, aBin, Xs, aLen, QmS, QmT, QmU, QmX, QmV, Qm7, Qnb, Xr, Xp, Yw, goInt, Qnp, Qm0, QmW, hsl, m1, hnn, ht]) | (with_reducible (first | refine Qi fun K hK => ?_ | refine Qm ?_ | refine QD ?_ | refine Qj ?_)) | ((with_reducible refine hK _ ?_); clear hK) | (refine Qk rfl ?_; simp only [↓reduceIte, QmW]))
    simp -implicitDefEqProofs only [Qg, ↓reduceIte, Nat.reduceEqDiff, QmU, QmX, QmY, List.mapM_cons, List.mapM_nil, Option.pure_def, Option.bind_eq_bind, QN, Qp, Qw, Qm2]
    exact Qh List.take_length (.tup rfl (Xd (.keep (.v _)) (XS (.keep (.v _))))) ⟨rfl, rfl⟩
  | false =>
    rw [if_neg (by simp)]
    refine Qe Tryz.func94 rfl Tryz.call94 Tryz.ntmps94 (congrArg Array.toList Tryz.results94) (by simp) ?_
    repeat (first | ((first | (with_reducible (first | refine Qa fun K E hK hE => ?_ | refine Qz c ?_ | refine FunW.ret (FunW.call H) ?_ | refine FunW.ret (FunW.call HL) ?_))); simp -implicitDefEqProofs only [Qd, Qb, Qf, OpW, QQ, aop, undef, AS.ev, Qc, Qn, Qt, QO, Xh, Qg, Qv, QmZ, Qnf, Qng, ↓reduceIte, Nat.reduceLT, Nat.reduceEqDiff, aBin, Xs, aLen, QmS, QmT, QmU, QmX, QmV, Qm7, Qnb, Xr, Xp, Yw, goInt, Qnp, Qm0, QmW, hsl, m1, hnn, ht]) | (with_reducible (first | refine Qi fun K hK => ?_ | refine Qm ?_ | refine QD ?_ | refine Qj ?_ | refine QA ?_)) | ((with_reducible refine hK _ ?_); clear hK) | (refine Qk rfl ?_; simp only [↓reduceIte, QmW]))
    simp -implicitDefEqProofs only [Qg, ↓reduceIte, Nat.reduceEqDiff, QmU, QmX, QmY, List.mapM_cons, List.mapM_nil, Option.pure_def, Option.bind_eq_bind, QN, Qp, Qw, Qm2]
    exact Qh List.take_length (.tup rfl (Xd (.keep (.v _)) (XS (.keep (.v _))))) ⟨rfl, rfl⟩
end Go.Proofs.YtehjodmnajgdgaaGreatDoor.Ab
namespace Go.Proofs.YtehjodmnajgdgaaGreatDoor.Ab
open Go.ChangeShapes Go.WideShapes Go.ChangeAt Go.RowKit
def base0 (W : World) : Cx := ⟨fun _ => none, [], W⟩
theorem QaC {H : Type} {enc : TypeId × Value → H} {P : Program} (hl : laidOutB P = true) {W W' : World} (hb : Go.RowKit.Below W.heap.size W W') {sp : Nat → Bool} :
    ∀ (ts : List TypeId) (vs : List Value) (ds : List (DataW H)) (ps : List MemPlace), (∀ t ∈ ts, P.readableRec t = true ∧ t < P.types.size) → DataW.TrodAll enc P W 0 (fun _ => true) true ts vs ds ps →
      (∀ x ∈ ps, x.block < W.heap.size ∧ sp x.block = true) → DataW.TrodAll enc P W' 0 sp true ts vs ds ps
  | [], vs, ds, ps, _, h, _ => by
    obtain ⟨rfl, rfl, rfl⟩ := trodAll_nil h
    exact trodAll_mk0
  | t :: ts, vs, ds, ps, hp, h, hlt => by
    obtain ⟨v, vs', d, ds', p, q, rfl, rfl, rfl, h1, h2⟩ := trodAll_cons h
    obtain ⟨h3, h4⟩ := hp t (by simp)
    exact trodAll_cons_mk (WideElems.Trod_stays hl h3 h4 h1 (fun x hx => hb.same (hlt x (by simp [hx])).1) (fun x hx => (hlt x (by simp [hx])).2))
      (QaC hl hb ts vs' ds' q (fun t ht => hp t (by simp [ht])) h2 (fun x hx => hlt x (by simp [hx])))
theorem QcB {H : Type} {enc : TypeId × Value → H} {P : Program} {W : World} {base : Nat} {sp : Nat → Bool} {held : Bool} :
    ∀ {ts : List TypeId} {vs : List Value} {ds : List (DataW H)} {ps : List MemPlace} {ts' : List TypeId} {vs' : List Value} {ds' : List (DataW H)} {ps' : List MemPlace},
      DataW.TrodAll enc P W base sp held ts vs ds ps → DataW.TrodAll enc P W base sp held ts' vs' ds' ps' → DataW.TrodAll enc P W base sp held (ts ++ ts') (vs ++ vs') (ds ++ ds') (ps ++ ps')
  | [], _, _, _, _, _, _, _, h, h' => by
    obtain ⟨rfl, rfl, rfl⟩ := trodAll_nil h
    exact h'
  | t :: ts, _, _, _, _, _, _, _, h, h' => by
    obtain ⟨v, vs', d, ds', p, q, rfl, rfl, rfl, h1, h2⟩ := trodAll_cons h
    have := trodAll_cons_mk h1 (QcB h2 h')
    simpa [List.append_assoc] using this
theorem Qid {H : Type} {enc : TypeId × Value → H} {P : Program} {fn : Func} {s : ChangeSpec} {apart fresh handsOn again : Bool} {W W' : World} {args : Array Value} {ds gs : List (DataW H)} {before : List MemPlace} {tb : TypeId}
    (hl : laidOutB P = true) (hvars : s.vars = []) (hr : fn.resultTypes = #[tb]) (hb : P.underlying tb = some .bool) (hp : ∀ t ∈ fn.params.toList, P.readableRec t = true ∧ t < P.types.size)
    (hW : DataW.Whole enc P fn.params.toList s.vars apart W args.toList ds gs before) (hs : s.fn H (ds ++ gs) = { results := [.lit (.bool true)], args := ds }) (hbel : Go.RowKit.Below W.heap.size W W') :
    s.post enc P fn apart fresh handsOn again W args (.bool true) W' := by
  have hlt : ∀ x ∈ before, x.block < W.heap.size := fun x hx => by simpa using hW.lt x hx
  have hW0 := hW
  obtain ⟨p, q, hA, hV, rfl, hfz, hnd⟩ := hW
  rw [hvars] at hV
  have hV0 := hV
  obtain ⟨rfl, rfl⟩ := trodVars_none hV
  simp only [Qnl] at hlt hfz hnd hW0 hs
  have hres : ∀ (b : Nat) (sp : Nat → Bool) (hd : Bool), DataW.TrodAll enc P W' b sp hd fn.resultTypes.toList ((Value.bool true).resultList fn.resultTypes.size) [.lit (.bool true)] [] := fun b sp hd => by
    rw [hr]
    exact trodAll_mk1 (shut_bool hb true)
  have hvs : ∀ sp : Nat → Bool, DataW.TrodVars enc P W' sp s.vars [] [] := fun sp => by rw [hvars]; rfl
  refine ⟨ds, [], p, [], p, [], by simpa using hW0, ?_, ?_, ?_, ?_, fun _ => ⟨?_, ?_⟩⟩
  · rw [List.append_nil, hs]; exact hres _ _ _
  · rw [List.append_nil, hs]
    exact QaC hl hbel _ _ _ _ hp hA fun x hx => ⟨hlt x hx, by simpa using hlt x hx⟩
  · rw [List.append_nil, hs]; exact hvs _
  · exact hbel.frame _
  · intro j t r hj hv
    rw [hr] at hj hv
    match j, hj, hv with
    | 0, hj, hv =>
      simp only [QmV, QmS, QmY] at hj
      have hv' : r = .bool true := by
        have : (some (Value.bool true)) = some r := hv
        cases this; rfl
      subst hj; subst hv'
      exact okWide_bool_mk hb true
    | j + 1, hj, hv => simp at hj
  · have hA' := QaC (sp := fun _ => true) hl hbel _ _ _ _ hp hA fun x hx => ⟨hlt x hx, rfl⟩
    refine ⟨_, [], [] ++ p, ⟨[] ++ p, [], QcB (hres 0 _ true) hA', hvs _, by simp, ?_, ?_⟩, ?_⟩
    · intro b off hm
      have hm' : MemPlace.cell b off ∈ p := by simpa using hm
      exact (hbel.frozen (p := ⟨b, off, none⟩) (hlt _ hm')).trans (hfz b off hm')
    · intro ha
      simpa using hnd ha
    · intro x hx _
      simpa using hx
theorem QkZ (c : Cx) : RelL c [] #[] := ⟨rfl, fun j a u h => by simp at h⟩
theorem Qjt {c : Cx} {a : AV} {asx : List AV} {u : Value} {us : List Value} (h : Rel c a u) (hs : RelL c asx us.toArray) : RelL c (a :: asx) (u :: us).toArray := by
  refine ⟨by have := hs.1; simp at this ⊢; exact this, fun j x v hx hv => ?_⟩
  cases j with
  | zero => simp at hx hv; subst hx; subst hv; exact h
  | succ j => exact hs.2 j x v (by simpa using hx) (by simpa using hv)
end Go.Proofs.YtehjodmnajgdgaaGreatDoor.Ab
namespace Go.Proofs.YtehjodmnajgdgaaGreatDoor.Ab
open Go.RowKit
def HasG (h : AH) (g : Nat) (cs : Array Value) : Prop := ∃ (i : Nat) (ty : TypeId) (fr : Nat × Nat), h[i]? = some (.glob g cs ty fr)
theorem HasG.app {h : AH} {g : Nat} {cs : Array Value} (H : HasG h g cs) (l : AH) : HasG (h ++ l) g cs := let ⟨i, ty, fr, e⟩ := H; ⟨i, ty, fr, hext e l⟩
theorem HasG.world {c : Cx} (hst : St c) {g : Nat} {cs : Array Value} (H : HasG c.h g cs) : ∃ ty fr, c.w.heap[g]? = some (.cells cs ty fr) :=
  let ⟨i, ty, fr, e⟩ := H; ⟨ty, fr, (hst.blocks i _ e).2⟩
theorem HasG.var {P : Program} {c : Cx} (hst : St c) {g : Nat} {cs : Array Value} (H : HasG c.h g cs) {nm : String} (hn : P.globalNamed nm = some g) : c.w.var? P nm = some cs := by
  obtain ⟨ty, fr, e⟩ := H.world hst
  simp only [World.var?, hn, QmX, e]
theorem HasG.kin {c c' : Cx} (hev : Ev c c') {g : Nat} {cs : Array Value} (H : HasG c.h g cs) : HasG c'.h g cs := by
  obtain ⟨i, ty, fr, e⟩ := H
  obtain ⟨b', hb, hk⟩ := hev.kin i _ e
  simp only [Kin] at hk
  obtain ⟨rfl, _⟩ := hk
  exact ⟨i, ty, fr, hb⟩
structure GV where
  g : Nat
  cs : Array Value
  ty : TypeId
  fr : Nat × Nat
def GV.blk (x : GV) : AB := .glob x.g x.cs x.ty x.fr
def QdX (W : World) (gs : List GV) : Cx := ⟨fun id => (gs[id]?).map (·.g), gs.map GV.blk, W⟩
theorem Qa7 {W : World} {gs : List GV} {id : Nat} {b : AB} (h : (QdX W gs).h[id]? = some b) : ∃ x, gs[id]? = some x ∧ b = x.blk ∧ (QdX W gs).ρ id = some x.g := by
  simp only [QdX, List.getElem?_map, Option.map_eq_some_iff] at h ⊢
  obtain ⟨x, hx, rfl⟩ := h
  exact ⟨x, hx, rfl, x, hx, rfl⟩
theorem Qkb {l : List Nat} (hn : l.Nodup) {i j a : Nat} (hi : l[i]? = some a) (hj : l[j]? = some a) : i = j := by
  have hp := List.pairwise_iff_getElem.1 hn
  obtain ⟨li, ei⟩ := List.getElem?_eq_some_iff.1 hi
  obtain ⟨lj, ej⟩ := List.getElem?_eq_some_iff.1 hj
  rcases Nat.lt_trichotomy i j with h | h | h
  · exact absurd (ei.trans ej.symm) (hp i j li lj h)
  · exact h
  · exact absurd (ej.trans ei.symm) (hp j i lj li h)
theorem QkN {W : World} {gs : List GV} (hw : ∀ x ∈ gs, W.heap[x.g]? = some (.cells x.cs x.ty x.fr)) (hn : (gs.map (·.g)).Nodup) : St (QdX W gs) := by
  refine ⟨fun id b h => ?_, fun i j a b B hi hj _ _ hρi hρj => ?_⟩
  · obtain ⟨x, hx, rfl, hρ⟩ := Qa7 h
    exact ⟨hρ, hw x (List.mem_of_getElem? hx)⟩
  · obtain ⟨x, hx, rfl, hρ⟩ := Qa7 hi
    obtain ⟨y, hy, rfl, hρ'⟩ := Qa7 hj
    have e : x.g = y.g := (Option.some.inj (hρ.symm.trans hρi)).trans (Option.some.inj (hρ'.symm.trans hρj)).symm
    have e1 : (gs.map (·.g))[i]? = some x.g := by rw [List.getElem?_map, hx]; rfl
    have e2 : (gs.map (·.g))[j]? = some x.g := by rw [List.getElem?_map, hy, e]; rfl
    exact Qkb hn e1 e2
theorem QfN {W : World} {gs : List GV} {c : Cx} (hw : ∀ x ∈ gs, W.heap[x.g]? = some (.cells x.cs x.ty x.fr)) (hst : St c) (h : Ev (QdX W gs) c) : Go.RowKit.Below W.heap.size W c.w := by
  refine ⟨h.os, h.tape, h.output, h.size, fun k hk => ?_⟩
  by_cases ho : (QdX W gs).owns k
  · obtain ⟨id, b, hb, _, hρ⟩ := ho
    obtain ⟨x, hx, rfl, hρ'⟩ := Qa7 hb
    obtain rfl := Option.some.inj (hρ.symm.trans hρ')
    obtain ⟨b', hb', hk'⟩ := h.kin id _ hb
    simp only [GV.blk, Kin] at hk'
    obtain ⟨rfl, _⟩ := hk'
    rw [(hst.blocks id _ hb').2, hw x (List.mem_of_getElem? hx)]
  · exact h.frame k hk ho
theorem QjU {W : World} {gs : List GV} {a : AV} {u : Value} (h : Rel (base0 W) a u) : Rel (QdX W gs) a u := by
  have hp : ∀ {B o : Nat} {u : Value}, (base0 W).cellP B o u → (QdX W gs).cellP B o u := fun {B o u} h => ⟨h.1, h.2.1, fun id b hb hl hρ => .inr (by
    obtain ⟨x, _, rfl, _⟩ := Qa7 hb
    exact ⟨_, _, _, _, rfl⟩)⟩
  induction h with
  | v x => exact .v x
  | junk x => exact .junk x
  | agg l cs hl h ih => exact .agg l cs hl ih
  | tup l cs hl h ih => exact .tup l cs hl ih
  | slnil s own ht => exact .slnil s own fun b hb => absurd (ht b hb).1 (by simp [base0])
  | slzero s own ba ht => exact .slzero s own ba fun b hb => absurd (ht b hb).1 (by simp [base0])
  | sl s xs own B o cap f hs hcap hmax hc hr ht ih => exact .sl s xs own B o cap f hs hcap hmax (fun j a hj => ⟨hp (hc j a hj).1, (hc j a hj).2⟩) ih fun b hb => absurd (ht b hb).1.1 (by simp [base0])
  | pin s xs k off B o f hs hc hr ih => exact .pin s xs k off B o f hs (fun j a hj => ⟨hp (hc j a hj).1, (hc j a hj).2⟩) ih
  | ptr id k off x hid => exact absurd hid (by simp [base0])
  | arr id lo len x hid => exact absurd hid (by simp [base0])
  | row id lo len cap x hid => exact absurd hid (by simp [base0])
  | mp id x hid => exact absurd hid (by simp [base0])
  | fn f first cap vs ws h1 h2 hv hw ihv ihw => exact .fn f first cap vs ws h1 h2 ihv ihw
  | ifc t a u h ih => exact .ifc t a u ih
  | spt s xs own p n k h ih => exact .spt s xs own p n k ih
theorem Qh6 {W : World} {gs : List GV} {asx : List AV} {args : Array Value} (h : RelL (base0 W) asx args) : RelL (QdX W gs) asx args := ⟨h.1, fun j a u e1 e2 => QjU (h.2 j a u e1 e2)⟩
theorem Qh4 {P : Program} {f : FuncId} {asx : List AV} {W : World} {args : Array Value} {gs : List GV} (hw : ∀ x ∈ gs, W.heap[x.g]? = some (.cells x.cs x.ty x.fr)) (hn : (gs.map (·.g)).Nodup)
    (hc : Xf P f asx (gs.map GV.blk) fun o h' => o = .ret (.v (.bool true)) ∧ h' = gs.map GV.blk) (hr : RelL (QdX W gs) asx args) :
    Calls P f args W fun e W' => e = .returned (.bool true) ∧ Go.RowKit.Below W.heap.size W W' := by
  refine callsIn_wide.1 ((hc.2 Fence.wide 0 (QdX W gs) args WF.wide (QkN hw hn) rfl hr).mono ?_)
  rintro e w' ⟨o, c', ⟨rfl, hh⟩, hev, hst, rfl, hend⟩
  obtain ⟨x, rfl, hx⟩ := hend
  cases hx
  exact ⟨rfl, QfN hw hst hev⟩
theorem QeL {P : Program} {W : World} {l : List (String × DataW Unit)} (h : laidMetH P l W) {x : String × DataW Unit} (hf : ((l.filter fun x => x.2.handleName?.isNone).filter fun y => y.1 == x.1) = [x]) : laidMet P [x] W := by
  have := (laidMetH_iff.1 h).1.filter fun y => y.1 == x.1
  rwa [hf] at this
theorem QkW {P : Program} {W : World} {nm : String} {d : DataW Unit} (h : laidMet P [(nm, d)] W) : ∃ g t cs, P.globalNamed nm = some g ∧ (P.globals[g]?).map (·.type) = some t ∧ W.var? P nm = some cs ∧ ∃ fuel p, DataW.trod (fun _ => ()) P W 0 (fun _ => true) false fuel t cs.toList = some (d, p) := by
  obtain ⟨ps, ⟨g, t, cs, fuel, p, q, h1, h2, h3, h4, _⟩, _⟩ := h
  exact ⟨g, t, cs, h1, h2, h3, fuel, p, h4⟩
theorem Qgf {P : Program} {W : World} {nm : String} {g : Nat} {cs : Array Value} (hn : P.globalNamed nm = some g) (h : W.var? P nm = some cs) : ∃ ty fr, W.heap[g]? = some (.cells cs ty fr) := by
  simp only [World.var?, hn, QmX] at h
  split at h
  · rename_i cs' ty fr e
    cases h
    exact ⟨ty, fr, e⟩
  · cases h
theorem QeH {P : Program} {W : World} {nm tn : String} {d : DataW Unit} {g : Nat} {t : TypeId} {ms : Array (String × TypeId)} (hn : P.globalNamed nm = some g) (hty : (P.globals[g]?).map (·.type) = some t) (hi : P.underlying t = some (.interface ms))
    (h : laidMet P [(nm, .iface tn d)] W) : ∃ u v ty fr, W.heap[g]? = some (.cells #[.iface u v] ty fr) := by
  obtain ⟨g', t', cs, h1, h2, h3, fuel, p, h4⟩ := QkW h
  obtain rfl := Option.some.inj (hn.symm.trans h1)
  obtain rfl := Option.some.inj (hty.symm.trans h2)
  obtain ⟨_, u, v, hcs, _⟩ := iface_of_trod hi h4
  obtain ⟨ty, fr, e⟩ := Qgf hn h3
  obtain rfl : cs = #[.iface u v] := by cases cs; simp_all
  exact ⟨u, v, ty, fr, e⟩
theorem Qku {P : Program} {W : World} {nm : String} {k : IntKind} {zs : List Int} {g : Nat} {t e : TypeId} {n : Nat}
    (hg : P.globalNamed nm = some g) (hty : (P.globals[g]?).map (·.type) = some t) (ht : P.underlying t = some (.array n e)) (he : P.underlying e = some (.int k)) (hce : P.cellsOf e = 1) (hct : P.cellsOf t = n)
    (h : laidMet P [(nm, Lib.tabData k zs)] W) : ∃ ty fr, W.heap[g]? = some (.cells (zs.map fun z => Value.int k z).toArray ty fr) :=
  Qgf hg (Lib.tabIs_of_head hg hty ht he hce hct h)
end Go.Proofs.YtehjodmnajgdgaaGreatDoor.Ab
namespace Go.Proofs.YtehjodmnajgdgaaGreatDoor.Ab
open Go.Lib
def decN (n : Nat) : ByteArray := ⟨(decDigits n).toArray⟩
theorem QbV (n : Nat) : (decN n).size = nDigits n := by
  show (decDigits n).toArray.size = _
  rw [List.size_toArray, decDigits_length]
theorem Qcf (n : Nat) : (decN n).data.toList = decDigits n := rfl
theorem Qa3 : ∀ (k n : Nat), n < 10 ^ (k + 1) → nDigits n ≤ k + 1
  | 0, n, h => by rw [nDigits_small (by simpa using h)]; exact Nat.le_refl _
  | k + 1, n, h => by
    by_cases hn : n < 10
    · rw [nDigits_small hn]; omega
    · rw [nDigits_big hn]
      have := Qa3 k (n / 10) (by rw [Nat.pow_succ] at h; omega)
      omega
theorem Qdo {n : Nat} (h : n ≤ 9223372036854775808) : (decN n).size ≤ 19 := by
  rw [QbV]
  exact Qa3 18 n (by omega)
theorem Qb7 {n : Nat} (h : n ≤ 1048576) : (decN n).size ≤ 7 := by
  rw [QbV]
  exact Qa3 6 n (by omega)
theorem Qht (n : Nat) : 1 ≤ (decN n).size := by rw [QbV]; exact nDigits_pos n
theorem QbY {a b : ByteArray} (h : a.data.toList = b.data.toList) : a = b := by
  obtain ⟨a⟩ := a; obtain ⟨b⟩ := b
  congr 1
  exact Array.toList_inj.1 h
theorem Qbe (a b : ByteArray) : (a ++ b).data.toList = a.data.toList ++ b.data.toList := by
  rw [ByteArray.data_append, Array.toList_append]
theorem QeG {n : Nat} (h : n < 10) : decN n = strOfNums [((48 + n : Nat) : Int)] := by
  refine QbY ?_
  rw [Qcf, decDigits_one h, strOfNums_data]
  rfl
theorem QhS {n : Nat} (h : ¬ n < 10) : decN n = decN (n / 10) ++ strOfNums [((48 + n % 10 : Nat) : Int)] := by
  refine QbY ?_
  rw [Qbe, Qcf, Qcf, decDigits, dif_neg h, strOfNums_data]
  rfl
theorem Qbz : ∀ (l m : List UInt8) (a : Nat), decFrom a (l ++ m) = (decFrom a l).bind fun b => decFrom b m
  | [], m, a => rfl
  | c :: l, m, a => by
    rw [List.cons_append]
    simp only [decFrom]
    cases digitVal c with
    | none => rfl
    | some d => exact Qbz l m _
theorem QcN {d : Nat} (h : d < 10) : digitVal (UInt8.ofNat (48 + d)) = some d := by
  have e : (UInt8.ofNat (48 + d)).toNat = 48 + d := by
    rw [UInt8.toNat_ofNat']; omega
  unfold digitVal
  rw [e, if_pos (by omega)]
  congr 1; omega
theorem QbQ (n : Nat) : decFrom 0 (decDigits n) = some n := by
  induction n using Nat.strongRecOn with
  | _ n ih =>
    rw [decDigits]
    split
    · rename_i h
      simp only [decFrom, QcN h]
      congr 1; omega
    · rename_i h
      rw [Qbz, ih (n / 10) (by omega), Option.bind_some]
      simp only [decFrom, QcN (show n % 10 < 10 by omega)]
      congr 1; omega
theorem decFrom_lt : ∀ (l : List UInt8) (a n : Nat), decFrom a l = some n → n < (a + 1) * 10 ^ l.length
  | [], a, n, h => by simp only [decFrom, QmY] at h; simp; omega
  | c :: l, a, n, h => by
    simp only [decFrom] at h
    unfold digitVal at h
    split at h
    · rename_i d hd
      have := decFrom_lt l _ n h
      split at hd
      · rename_i hr
        cases hd
        refine Nat.lt_of_lt_of_le this ?_
        rw [List.length_cons, Nat.pow_succ, Nat.mul_comm (10 ^ l.length) 10, ← Nat.mul_assoc]
        refine Nat.mul_le_mul_right _ ?_
        omega
      · cases hd
    · cases h
theorem QkB (n : Nat) : ∃ d r, d < 10 ∧ decDigits n = UInt8.ofNat (48 + d) :: r := by
  induction n using Nat.strongRecOn with
  | _ n ih =>
    rw [decDigits]
    split
    · rename_i h; exact ⟨n, [], h, rfl⟩
    · rename_i h
      obtain ⟨d, r, hd, e⟩ := ih (n / 10) (by omega)
      exact ⟨d, r ++ [UInt8.ofNat (48 + n % 10)], hd, by rw [e]; rfl⟩
theorem Qkp {n : Nat} (h : (decDigits n).length ≤ 18) : atoiAll (decDigits n) = .ok (n : Int) := by
  rw [atoiAll_short _ h]
  obtain ⟨d, r, hd, e⟩ := QkB n
  have e1 : (UInt8.ofNat (48 + d)).toNat = 48 + d := by rw [UInt8.toNat_ofNat']; omega
  have h45 : (UInt8.ofNat (48 + d) == 45) = false := by
    rw [beq_eq_false_iff_ne]; intro h; have := congrArg UInt8.toNat h; rw [e1] at this; simp at this; omega
  have h43 : (UInt8.ofNat (48 + d) == 43) = false := by
    rw [beq_eq_false_iff_ne]; intro h; have := congrArg UInt8.toNat h; rw [e1] at this; simp at this; omega
  have : atoi (decDigits n) = some (n : Int) := by
    have hdn : decNat (decDigits n) = some n := by
      unfold decNat
      rw [if_neg (by rw [e]; simp)]
      exact QbQ n
    rw [e] at hdn ⊢
    simp only [atoi, h45, h43, QmW, if_false, hdn, QmU]
  rw [this]; rfl
end Go.Proofs.YtehjodmnajgdgaaGreatDoor.Ab
set_option maxRecDepth 4000
namespace Go.Proofs.YtehjodmnajgdgaaGreatDoor.Ab
open Go.Proofs Go.RowKit
def tabC : Array Value := (Lib.pow10Tab.map fun z => Value.int .u64 z).toArray
def X9 (h : AH) : Prop := HasG h 0 tabC
open Go.Sort in
theorem Qcd (w : World) (q : Nat) (os : Array Obj) : Go.RowKit.Below w.heap.size w (grow (w.drewN q) os) :=
  ⟨rfl, rfl, rfl, by simp [grow], fun i hi => by
    show ((w.drewN q).heap ++ os)[i]? = _
    rw [Array.getElem?_append_left (by show i < w.heap.size; omega)]
    rfl⟩
theorem Qi0 (n : Nat) (hn : n ≤ 9223372036854775807) (h : AH) (hG : X9 h) : Xf Tryz.prog 72 [.i n] h fun o h' => o = .ret (.v (.string (decN n))) ∧ h' = h :=
  Qas (vs := [.int .i64 n]) Tryz.call72 fun c hst hh => by
    have hv : c.w.var? Tryz.prog "internal/strconv.uint64pow10" = some tabC := HasG.var hst (hh ▸ hG) (by kernel_rfl)
    refine (Tryz.strconv_Itoa n (by omega) (by omega) c.w hv).mono ?_
    rintro e w' ⟨rfl, k, os, rfl⟩
    refine ⟨_, rfl, ?_, fun c' => by rw [Lib.itoa_nonneg]; exact .v _⟩
    exact Qcd c.w k os
theorem QdC (n : Nat) (h1 : n ≤ 1048576) (h : AH) (hG : X9 h) : Xf Tryz.prog 73 [.i n] h fun o h' => o = .ret (.v (.string (vOf (decN n)))) ∧ h' = h :=
  Qkx n (by omega) (by omega) _ (by have := Qb7 h1; omega) h (Qi0 n (by omega) h hG)
theorem Qmn (x : Int) (h0 : 0 ≤ x) (h1 : x < 256) : pv Tryz.prog (convert 3 5 (.int .i64 x)) = some (.int .u8 x) := by
  rw [Qg1 Tryz.prog 3 5 (ts := .int .i64) (kd := .u8) (by kernel_rfl) (by kernel_rfl)]
  have : IntKind.u8.wrap x = x := by simp [IntKind.wrap, IntKind.bits, IntKind.signed]; omega
  rw [this]
theorem QlP (x : Int) (h0 : 0 ≤ x) (h1 : x < 256) : pv Tryz.prog (convert 5 3 (.int .u8 x)) = some (.int .i64 x) := by
  rw [Qg1 Tryz.prog 5 3 (ts := .int .u8) (kd := .i64) (by kernel_rfl) (by kernel_rfl)]
  rw [YP (by omega)]
theorem Qgy (n : Nat) : n ≤ 9223372036854775807 → Pure Tryz.prog 74 [.i n] (.v (.string (decN n))) := by
  induction n using Nat.strongRecOn with
  | _ n ih =>
    intro hn h
    have m0 : ¬ (n : Int) < 0 := by omega
    have hr := fun xo yo => Ql8 Tryz.prog 3 xo yo .i64 (n : Int) 10 (by decide)
    have hq := fun xo yo => QlS Tryz.prog 3 xo yo .i64 (n : Int) 10 (by decide)
    have er : (n : Int).tmod 10 = ((n % 10 : Nat) : Int) := rfl
    have eq : IntKind.i64.wrap ((n : Int).tdiv 10) = ((n / 10 : Nat) : Int) := by
      rw [show (n : Int).tdiv 10 = ((n / 10 : Nat) : Int) from rfl, YP (by omega)]
    have ew : IntKind.i64.wrap (48 + ((n % 10 : Nat) : Int)) = ((48 + n % 10 : Nat) : Int) := by rw [YP (by omega)]; omega
    have hc := Qmn ((48 + n % 10 : Nat) : Int) (by omega) (by omega)
    have hby : QeS Tryz.prog 67 9 = true := by kernel_rfl
    by_cases hs : n < 10
    · have m1 : (n : Int) < 10 := by omega
      have e0 : n % 10 = n := Nat.mod_eq_of_lt hs
      rw [e0] at er ew hc
      refine Qe Tryz.func74 rfl Tryz.call74 Tryz.ntmps74 (congrArg Array.toList Tryz.results74) (by simp) ?_
      repeat (first | (((with_reducible refine Qa fun K E hK hE => ?_)); simp -implicitDefEqProofs only [Qd, Qb, Qf, OpW, aop, undef, AS.ev, Qc, Qn, QO, Qg, Qv, QmZ, AV.Qmr, QT, Qnc, Qnd, Qs, Qne, ↓reduceIte, Qm5, Qm6, Nat.reduceLT, Nat.reduceLeDiff, Nat.reduceEqDiff, Nat.reduceMul, Qm4, Qnq, aBin, Q6, ZA, QmU, Qm7, Qnb, Q3, XK, Qno, Qnp, Qm0, rng1, Xk, Nat.reducePow, zi5, ei67, m0, m1, hr, er, ew, hc, QbF, hby, intsOf]) | (with_reducible (first | refine Qi fun K hK => ?_ | refine Qm ?_ | refine QD ?_ | refine Qj ?_ | refine QA ?_)) | ((with_reducible refine hK _ ?_); clear hK) | (refine Qk rfl ?_; simp only [↓reduceIte, QmW]))
      simp only [QN, Qp, Qw, upd, ↓reduceIte, QmY, Qm2]; first | refine Qh (htake _ _) (.keep (.v _)) ⟨by rw [QeG hs], rfl⟩ | refine Qh List.take_length (.keep (.v _)) ⟨by rw [QeG hs], rfl⟩
    · have m1 : ¬ (n : Int) < 10 := by omega
      have c := ih (n / 10) (by omega) (by omega)
      have hsz : (decN (n / 10)).size ≤ 19 := Qdo (by omega)
      have hsa := fun xo yo => QbL Tryz.prog 9 xo yo (decN (n / 10)) (strOfNums [((48 + n % 10 : Nat) : Int)]) (by rw [strOfNums_size]; simp; omega)
      refine Qe Tryz.func74 rfl Tryz.call74 Tryz.ntmps74 (congrArg Array.toList Tryz.results74) (by simp) ?_
      repeat (first | ((first | (with_reducible (first | refine Qa fun K E hK hE => ?_ | refine Qz c ?_))); simp -implicitDefEqProofs only [Qd, Qb, Qf, OpW, QQ, aop, undef, AS.ev, Qc, Qn, QO, Qg, Qv, QmZ, AV.Qmr, QT, Qnc, Qnd, Qs, Qne, ↓reduceIte, Qm5, Qm6, Nat.reduceLT, Nat.reduceLeDiff, Nat.reduceEqDiff, Nat.reduceMul, Qm4, Qnq, aBin, Q6, ZA, QmU, Qm7, Qnb, Q3, XK, Qnp, Qm0, rng1, Xk, Nat.reducePow, zi5, ei67, m0, m1, hr, hq, er, eq, ew, hc, QbF, hby, intsOf, hsa]) | (with_reducible (first | refine Qi fun K hK => ?_ | refine Qm ?_ | refine QD ?_ | refine Qj ?_)) | ((with_reducible refine hK _ ?_); clear hK) | (refine Qk rfl ?_; simp only [↓reduceIte, QmW]))
      simp only [QN, Qp, Qw, upd, ↓reduceIte, QmY, Qm2]; first | refine Qh (htake _ _) (.keep (.v _)) ⟨by rw [QhS hs], rfl⟩ | refine Qh List.take_length (.keep (.v _)) ⟨by rw [QhS hs], rfl⟩
theorem QeZ (n : Nat) (h1 : n ≤ 1048576) : Pure Tryz.prog 75 [.i n] (.v (.string (vOf (decN n)))) := by
  intro h
  have m0 : ¬ (n : Int) < 0 := by omega
  have m1 : ¬ (n : Int) > 1048576 := by omega
  have c := Qgy n (by omega)
  have hsz := Qb7 h1
  have hsa := fun xo yo => QbL Tryz.prog 9 xo yo ({ data := #[86] } : ByteArray) (decN n) (by show 1 + _ ≤ _; omega)
  refine Qe Tryz.func75 rfl Tryz.call75 Tryz.ntmps75 (congrArg Array.toList Tryz.results75) (by simp) ?_
  repeat (first | ((first | (with_reducible (first | refine Qa fun K E hK hE => ?_ | refine Qz c ?_))); simp -implicitDefEqProofs only [Qd, Qb, Qf, OpW, QQ, aop, undef, AS.ev, Qc, Qn, QO, Qg, Qv, QmZ, ↓reduceIte, Nat.reduceLT, Nat.reduceEqDiff, aBin, QmS, QmT, QmU, QmX, QmV, Qm7, Qnb, Q3, Xr, Qnp, Qm0, QmW, m0, m1, hsa]) | (with_reducible (first | refine Qi fun K hK => ?_ | refine Qm ?_ | refine QD ?_ | refine Qj ?_)) | ((with_reducible refine hK _ ?_); clear hK) | (refine Qk rfl ?_; simp only [↓reduceIte, QmW]))
  simp only [QN, Qp, Qw, upd, ↓reduceIte, QmY, Qm2]; first | refine Qh (htake _ _) (.keep (.v _)) ⟨rfl, rfl⟩ | refine Qh List.take_length (.keep (.v _)) ⟨rfl, rfl⟩
theorem Qg5 (n : Int) (hn : n < 0 ∨ n > 1048576) : Pure Tryz.prog 75 [.i n] (.v (.string { data := #[] })) := by
  intro h
  by_cases m0 : n < 0
  · refine Qe Tryz.func75 rfl Tryz.call75 Tryz.ntmps75 (congrArg Array.toList Tryz.results75) (by simp) ?_
    repeat (first | (((with_reducible refine Qa fun K E hK hE => ?_)); simp -implicitDefEqProofs only [Qd, Qb, Qf, OpW, aop, undef, AS.ev, Qc, Qn, Qt, QO, Qg, Qv, QmZ, Qnf, ↓reduceIte, Nat.reduceLT, Nat.reduceEqDiff, aBin, QmS, QmT, QmU, QmX, QmV, Q3, Qno, beq_false, m0]) | (with_reducible (first | refine Qi fun K hK => ?_ | refine Qm ?_ | refine QA ?_)) | ((with_reducible refine hK _ ?_); clear hK) | (refine Qk rfl ?_; simp only [↓reduceIte]))
    simp only [QN, Qp, Qw, upd, ↓reduceIte, QmY, Qm2]; first | refine Qh (htake _ _) (.keep (.v _)) ⟨rfl, rfl⟩ | refine Qh List.take_length (.keep (.v _)) ⟨rfl, rfl⟩
  · have m1 : n > 1048576 := by omega
    refine Qe Tryz.func75 rfl Tryz.call75 Tryz.ntmps75 (congrArg Array.toList Tryz.results75) (by simp) ?_
    repeat (first | (((with_reducible refine Qa fun K E hK hE => ?_)); simp -implicitDefEqProofs only [Qd, Qb, Qf, OpW, aop, undef, AS.ev, Qc, Qn, QO, Qg, Qv, QmZ, ↓reduceIte, Nat.reduceLT, Nat.reduceEqDiff, aBin, QmS, QmT, QmU, QmX, QmV, Q3, Xr, Qno, Qnp, Qm0, QmW, m0, m1]) | (with_reducible (first | refine Qi fun K hK => ?_ | refine Qm ?_ | refine QA ?_)) | ((with_reducible refine hK _ ?_); clear hK) | (refine Qk rfl ?_; simp only [↓reduceIte]))
    simp only [QN, Qp, Qw, upd, ↓reduceIte, QmY, Qm2]; first | refine Qh (htake _ _) (.keep (.v _)) ⟨rfl, rfl⟩ | refine Qh List.take_length (.keep (.v _)) ⟨rfl, rfl⟩
end Go.Proofs.YtehjodmnajgdgaaGreatDoor.Ab
set_option maxRecDepth 4000
namespace Go.Proofs.YtehjodmnajgdgaaGreatDoor.Ab
open Go.Proofs
def BTy (ty : TypeId) : Prop := ty = 69 ∨ ty = 71
theorem QlJ (xo : Operand) : pv Tryz.prog (do eqGuard .eql 66 xo (.const (.pointer none)) (.pointer none) (.pointer none); binOp .eql 66 (.pointer none) (.pointer none)) = some (.bool true) := by
  kernel_rfl
theorem BTy.cells {ty : TypeId} (h : BTy ty) : Tryz.prog.cellsOf ty = 2 := by rcases h with rfl | rfl <;> kernel_rfl
theorem BTy.lies {ty : TypeId} (h : BTy ty) : liesAt Tryz.prog Tryz.prog.depth ty 1 0 69 1 = true := by rcases h with rfl | rfl <;> kernel_rfl
theorem unB : Tryz.prog.underlying 66 = some (.pointer 69) := by kernel_rfl
theorem unU : Tryz.prog.underlying 114 = some .unsafePointer := by kernel_rfl
theorem inB : ∃ j, Tryz.prog.info? 69 = some j ∧ j.size ≠ 0 := by
  have h : (match Tryz.prog.info? 69 with | some j => decide (j.size ≠ 0) | none => false) = true := by kernel_rfl
  cases hj : Tryz.prog.info? 69 with
  | none => rw [hj] at h; cases h
  | some j => rw [hj] at h; exact ⟨j, rfl, of_decide_eq_true h⟩
theorem isB : (Tryz.prog.info? 69).isSome = true := by kernel_rfl
theorem toU {ty : TypeId} (hty : BTy ty) {h : AH} {i : Nat} {xs : List AV} (hb : h[i]? = some (.cells ty 2 [.agg xs])) : Qaf Tryz.prog 66 114 i 0 0 h = some (.ptr i 0 0) := by
  obtain ⟨j, hj, h0⟩ := inB
  simp only [Qaf, hb, unB, unU, hj]
  rw [if_neg (by simp), if_pos h0]
theorem Qml {ty : TypeId} (hty : BTy ty) {h : AH} {i : Nat} {xs : List AV} (hb : h[i]? = some (.cells ty 2 [.agg xs])) : Qaf Tryz.prog 114 66 i 0 0 h = some (.ptr i 0 0) := by
  obtain ⟨j, hj, h0⟩ := inB
  simp only [Qaf, hb, unB, unU, hj]
  rw [if_neg (by simp), if_pos ⟨rfl, hty.cells, hty.lies⟩]
theorem QaH {ty : TypeId} (hty : BTy ty) {i j : Nat} (hij : i ≠ j) (u : Bool) (tx : ByteArray) : Wr Tryz.prog 5 ty 80 [.ptr i 0 0] i j u tx (.tup []) true tx := by
  intro h hi hj
  have f1 := fun x y => Zj h i x j y
  have f2 := fun x y => Zh (h := h) hi hij x y
  have f3 := fun x y z => Qdb (h := h) (i := i) (j := j) hij x y z
  have f4 := QlJ
  have c0 := fun y h => Qi6 (P := Tryz.prog) (y := y) (h := h) Tryz.func112 (by kernel_rfl) (by kernel_rfl) (by kernel_rfl) (by kernel_rfl)
  cases u
  · refine Qe Tryz.func80 rfl Tryz.call80 Tryz.ntmps80 (congrArg Array.toList Tryz.results80) (by simp) ?_
    rw [bw0, bw1]
    repeat (first | ((first | (with_reducible (first | refine Qa fun K E hK hE => ?_ | refine Qr fun K E hK hE => ?_ | refine FunW.ret (c0 _ _) ?_))); simp -implicitDefEqProofs only [Qd, Qb, Qf, OpW, QQ, aop, undef, AS.ev, Qc, QL, XQ, Qg, Qv, QmZ, AV.Qmr, Qo, Xj, QB, Yu, Qnc, Qnd, Xq, Qne, ↓reduceIte, Qm5, Qm6, Nat.reduceAdd, Nat.reduceLT, Nat.reduceLeDiff, Nat.reduceEqDiff, Qm4, Qnh, Qnr, Qnq, Ql, QG, QH, QW, QM, aBin, QmS, Qnm, QmU, Qm7, Qnb, Qnk, Qnj, Qna, Qm1, Qm9, QmW, ti66, Qlf, QC, f2, f3, f4, toU hty (Zh (h := h) hi hij _ _), Qml hty (Zh (h := h) hi hij _ _)]) | ((with_reducible refine hK _ ?_); clear hK) | (refine Qk rfl ?_; simp only [↓reduceIte]))
    simp -implicitDefEqProofs only [QmU, QmY, List.mapM_nil, Option.pure_def, QmU, QN, Qp, Qm2]
    exact .inr ⟨rfl, rfl⟩
  · refine Qe Tryz.func80 rfl Tryz.call80 Tryz.ntmps80 (congrArg Array.toList Tryz.results80) (by simp) ?_
    rw [bw1]
    repeat (first | (((with_reducible refine Qa fun K E hK hE => ?_)); simp -implicitDefEqProofs only [Qd, Qb, Qf, OpW, aop, undef, AS.ev, Qc, XQ, Qg, Qv, QmZ, Qo, ↓reduceIte, Nat.reduceLT, Nat.reduceEqDiff, Qnh, Qnq, Ql, QG, QH, aBin, QmS, QmU, ti66, un66, Qlf, QC, f2, isB, QdK, notNil]) | (with_reducible refine QD ?_) | ((with_reducible refine hK _ ?_); clear hK) | (refine Qk rfl ?_; simp only [↓reduceIte, QmW]))
    simp -implicitDefEqProofs only [QmU, QmY, List.mapM_nil, Option.pure_def, QmU, QN, Qp, Qm2]
    exact .inr ⟨rfl, rfl⟩
theorem QlA : Tryz.prog.underlying 67 = some (.slice 5) := by kernel_rfl
theorem Ql6 : Tryz.prog.underlying 9 = some .string := by kernel_rfl
theorem inU8 : ∃ i z, Tryz.prog.info? 5 = some i ∧ i.zero = some z ∧ i.size = 1 ∧ i.bytes = 1 ∧ z.cells.size = 1 := by
  have h : (match Tryz.prog.info? 5 with | some i => (match i.zero with | some z => decide (i.size = 1 ∧ i.bytes = 1 ∧ z.cells.size = 1) | none => false) | none => false) = true := by kernel_rfl
  cases hj : Tryz.prog.info? 5 with
  | none => rw [hj] at h; cases h
  | some i =>
    cases hz : i.zero with
    | none => rw [hj] at h; simp [hz] at h
    | some z => rw [hj] at h; simp only [hz] at h; exact ⟨i, z, rfl, hz, of_decide_eq_true h⟩
theorem appS {tx s : ByteArray} {j : Nat} {h : AH} (hj : h[j]? = some (.grow 5 1 tx.size)) (hs : tx.size + s.size ≤ 140737488355328) :
    Qbk Tryz.prog 67 9 (.sl 1 (Xt tx) (some j)) s h = some (.sl 1 (Xt (tx ++ s)) (some j), h.set j (.grow 5 1 (tx ++ s).size)) := by
  obtain ⟨i, z, h1, h2, h3, h4, h5⟩ := inU8
  exact Qhj QlA Ql6 h1 h2 h3 h4 h5 hj hs
theorem appN : appInfo Tryz.prog 67 9 = none := by kernel_rfl
theorem QdN {ty : TypeId} (hty : BTy ty) {i j : Nat} (hij : i ≠ j) (u : Bool) (tx s : ByteArray) (hs : tx.size + s.size ≤ 140737488355328) : Wr Tryz.prog 5 ty 40 [.ptr i 0 0, .v (.string s)] i j u tx (.tup [.i s.size, .v .nilIface]) true (tx ++ s) := by
  intro h hi hj
  have f1 := fun x y => Zj h i x j y
  have f2 := fun x y => Zh (h := h) hi hij x y
  have f3 := fun x y z => Qdb (h := h) (i := i) (j := j) hij x y z
  have f5 := fun x y z => Qdj (h := h) (i := i) (j := j) x y z
  have f6 := fun x => appS (Qbh (h := h) (i := i) hj x (.grow 5 1 tx.size)) hs
  have c1 := QaH hty hij u tx h hi hj
  have hsl := Yf Tryz.prog 9 3 Ql6 s
  refine Qe Tryz.func40 rfl Tryz.call40 Tryz.ntmps40 (congrArg Array.toList Tryz.results40) (by simp) ?_
  repeat (first | ((first | (with_reducible (first | refine Qa fun K E hK hE => ?_ | refine FunW.ret (FunW.call c1) ?_))); simp -implicitDefEqProofs only [Qd, Qb, Qf, OpW, QQ, aop, undef, AS.ev, Qc, QL, Qn, Xh, Qg, Qv, QmZ, Qni, AV.Qmr, Qo, Xv, QB, Yz, Qnc, Qnd, QI, Qne, ↓reduceIte, Qm5, Qm6, Nat.reduceAdd, Nat.reduceLT, Nat.reduceLeDiff, Nat.reduceEqDiff, Qm4, Qnq, Ql, QG, QH, QW, QM, aLen, Zs, QmS, QmT, Qnm, QmU, Qm7, Qnb, Qnk, Qnj, Qnl, Qm3, Qna, Qm1, Qm9, goInt, QmW, ti67, QhH, QC, f2, f3, f5, f6, bw1, aopR, appN, hsl]) | (with_reducible refine Qm ?_) | ((with_reducible refine hK _ ?_); clear hK))
  simp -implicitDefEqProofs only [Qg, ↓reduceIte, Nat.reduceEqDiff, QmU, QmX, QmY, List.mapM_nil, List.mapM_cons, Option.pure_def, QmU, Option.bind_eq_bind, QN, Qp, Qw, Qm2]
  exact .inr ⟨rfl, rfl⟩
theorem QfB {ty : TypeId} (hty : BTy ty) {i j : Nat} (hij : i ≠ j) (u : Bool) (tx : ByteArray) (b : UInt8) (hs : tx.size < 140737488355328) : Wr Tryz.prog 5 ty 110 [.ptr i 0 0, .v (.int .u8 (b.toNat : Nat))] i j u tx (.v .nilIface) true (tx ++ { data := #[b] }) := by
  intro h hi hj
  have f1 := fun x y => Zj h i x j y
  have f2 := fun x y => Zh (h := h) hi hij x y
  have f3 := fun x y z => Qdb (h := h) (i := i) (j := j) hij x y z
  have f5 := fun x y z => Qdj (h := h) (i := i) (j := j) x y z
  have f7 := fun x y => Qbh (h := h) (i := i) hj x y
  have c1 := QaH hty hij u tx h hi hj
  have e1 : Xt (tx ++ { data := #[b] }) = Xt tx ++ [.v (.int .u8 (b.toNat : Nat))] := Qal tx _
  have e2 : (tx ++ ({ data := #[b] } : ByteArray)).size = tx.size + 1 := QU _ _
  have hs' : tx.size + 1 ≤ 140737488355328 := hs
  refine Qe Tryz.func110 rfl Tryz.call110 Tryz.ntmps110 (congrArg Array.toList Tryz.results110) (by simp) ?_
  rw [bw1, e1, e2]
  have hm : tx.size + 1 ≤ maxLen := by simp only [maxLen]; omega
  repeat (first | ((first | (with_reducible (first | refine Qa fun K E hK hE => ?_ | refine FunW.ret (FunW.call c1) ?_))); simp -implicitDefEqProofs only [Qd, Qb, Qf, OpW, QQ, aop, undef, AS.ev, Qc, QL, Xh, Qg, Qv, QmZ, Qni, AV.Qmr, Qo, QT, Xv, QB, Yz, Qnc, Qnd, Qs, QI, Qne, ↓reduceIte, Qm5, Qm6, Nat.reduceAdd, Nat.reduceLT, Nat.reduceLeDiff, Nat.reduceEqDiff, Qm4, Qnq, Ql, QG, QH, QW, QM, Q6, Zs, ZA, QmS, QmT, Qnm, QmU, Qm7, Qnb, Qnk, Qnj, Qnl, Qm3, Qna, Qm1, Qm9, Qm0, QmW, rng1, Xk, Nat.reducePow, zi5, ti67, ei67, ai67, QhH, QC, f2, f3, f5, f7, bw1, Yj, hm, hs', Nat.mul_one]) | (with_reducible refine Qm ?_) | ((with_reducible refine hK _ ?_); clear hK))
  simp -implicitDefEqProofs only [Qg, ↓reduceIte, QmY, QN, Qp, Qw, Qm2]
  exact .inr ⟨rfl, rfl⟩
theorem unPB : Tryz.prog.underlying 111 = some (.pointer 5) := by kernel_rfl
theorem szB : Tryz.prog.cellsOf 5 = 1 := by kernel_rfl
theorem Qie {ty : TypeId} {i j : Nat} (hij : i ≠ j) (tx : ByteArray) (h0 : 0 < tx.size) (hs : tx.size ≤ 140737488355328) : Chg2 Tryz.prog 66 [.ptr i 0 0] i (bw ty i j true tx) j (.grow 5 1 tx.size) (.v (.string tx)) (bw ty i j true tx) .gone := by
  intro h hi hj
  have f1 := fun x y => Zj h i x j y
  have f2 := fun x y => Zh (h := h) hi hij x y
  have f5 := fun x y z => Qdj (h := h) (i := i) (j := j) x y z
  have f7 := fun x y => Qbh (h := h) (i := i) hj x y
  have hs' : tx.size ≤ 9223372036854775807 := by omega
  have g1 := Qc3 h0 j
  have g2 := fun x => QcV (P := Tryz.prog) unPB szB (T := tx) (f7 x (.grow 5 1 tx.size)) h0 hs'
  refine Qe Tryz.func66 rfl Tryz.call66 Tryz.ntmps66 (congrArg Array.toList Tryz.results66) (by simp) ?_
  rw [bw1]
  repeat (first | ((first | (with_reducible refine Qa fun K E hK hE => ?_) | (refine QP (id := 1) [(0, 0), (1, 0), (2, 0), (3, 0), (4, 0), (5, 0), (6, 0), (7, 0), (8, 0), (9, 0), (10, 2), (11, 0)] mixed (by kernel_rfl) fun K hK => ?_)); simp -implicitDefEqProofs only [Q1, QX, Q8, Qd, Qb, Qf, OpW, aop, undef, AS.ev, Qc, QO, Qg, Qv, QmZ, Qo, ↓reduceIte, Nat.reduceLT, Nat.reduceEqDiff, Qm4, Ql, QG, QH, aLen, QmS, QmT, QmU, QmV, goInt, ti67, un67, QhH, QC, f2, f5, g1, g2, Yj]) | (with_reducible refine Qm ?_) | ((with_reducible refine hK _ ?_); clear hK))
  simp only [QN, Qp, Qw, upd, ↓reduceIte, QmY, Qm2]
  exact .inr ⟨rfl, rfl⟩
end Go.Proofs.YtehjodmnajgdgaaGreatDoor.Ab
set_option maxRecDepth 4000
namespace Go.Proofs.YtehjodmnajgdgaaGreatDoor.Ab
open Go.Proofs
abbrev mi : ByteArray := { data := #[45] }
def decZ (n : Int) : ByteArray := if n < 0 then mi ++ decN n.natAbs else decN n.toNat
theorem Qjo (n : Int) : (⟨(Lib.itoa n).toArray⟩ : ByteArray) = decZ n := by
  unfold decZ Lib.itoa
  split
  · apply ByteArray.ext; rfl
  · rfl
theorem QjM (n : Int) (h1 : -9223372036854775808 ≤ n) (h2 : n ≤ 9223372036854775807) : (decZ n).size ≤ 20 := by
  unfold decZ
  split
  · rw [QU]
    have := Qdo (n := n.natAbs) (by omega)
    have : mi.size = 1 := rfl
    omega
  · have := Qdo (n := n.toNat) (by omega)
    omega
theorem QkH (n : Int) : 0 < (decZ n).size := by
  unfold decZ
  split
  · rw [QU]
    have : mi.size = 1 := rfl
    omega
  · exact Qht _
theorem Qiw (n : Int) (h0 : -9223372036854775808 ≤ n) (hn : n ≤ 9223372036854775807) (h : AH) (hG : X9 h) : Xf Tryz.prog 72 [.i n] h fun o h' => o = .ret (.v (.string (decZ n))) ∧ h' = h :=
  Qas (vs := [.int .i64 n]) Tryz.call72 fun c hst hh => by
    have hv : c.w.var? Tryz.prog "internal/strconv.uint64pow10" = some tabC := HasG.var hst (hh ▸ hG) (by kernel_rfl)
    refine (Tryz.strconv_Itoa n h0 hn c.w hv).mono ?_
    rintro e w' ⟨rfl, k, os, rfl⟩
    refine ⟨_, rfl, ?_, fun c' => by rw [← Qjo]; exact .v _⟩
    exact Qcd c.w k os
def ofB (s : ByteArray) : Int := if (s.toList == ({ data := #[43] } : ByteArray).toList) || (s.toList == ({ data := #[45] } : ByteArray).toList) then 1 else if (s.toList == ({ data := #[42] } : ByteArray).toList) || (s.toList == ({ data := #[47] } : ByteArray).toList) || (s.toList == ({ data := #[37] } : ByteArray).toList) then 2 else 0
def T.oper (t : T) : Int := if t.kind ≠ 2 ∨ t.args.length ≠ 2 then 0 else ofB t.name
theorem Qck (s : ByteArray) : Pure Tryz.prog 109 [.v (.string s)] (.i (ofB s)) := by
  intro h
  cases b1 : s.toList == ({ data := #[43] } : ByteArray).toList
  · cases b2 : s.toList == ({ data := #[45] } : ByteArray).toList
    · cases b3 : s.toList == ({ data := #[42] } : ByteArray).toList
      · cases b4 : s.toList == ({ data := #[47] } : ByteArray).toList
        · cases b5 : s.toList == ({ data := #[37] } : ByteArray).toList
          · have e : ofB s = 0 := by rw [ofB, b1, b2, b3, b4, b5]; rfl
            refine Qe Tryz.func109 rfl Tryz.call109 Tryz.ntmps109 (congrArg Array.toList Tryz.results109) (by simp) ?_
            repeat (first | ((first | (with_reducible (first | refine Qa fun K E hK hE => ?_ | refine Qr fun K E hK hE => ?_))); simp -implicitDefEqProofs only [Qd, Qb, Qf, OpW, aop, undef, AS.ev, Qc, Qn, QO, Qg, Qv, QmZ, ↓reduceIte, Nat.reduceLT, Nat.reduceEqDiff, aBin, QmU, QY, b1, b2, b3, b4, b5]) | (with_reducible (first | refine Qi fun K hK => ?_ | refine Qq ?_ | refine Qm ?_ | refine QD ?_ | refine Qj ?_ | refine QF ?_)) | ((with_reducible refine hK _ ?_); clear hK) | (refine Qk rfl ?_; simp only [↓reduceIte, QmW]))
            simp only [QN, Qp, Qw, upd, ↓reduceIte, QmY, Qm2]; first | refine Qh (htake _ _) (.keep (.v _)) ⟨by rw [e], rfl⟩ | refine Qh List.take_length (.keep (.v _)) ⟨by rw [e], rfl⟩
          · have e : ofB s = 2 := by rw [ofB, b1, b2, b3, b4, b5]; rfl
            refine Qe Tryz.func109 rfl Tryz.call109 Tryz.ntmps109 (congrArg Array.toList Tryz.results109) (by simp) ?_
            repeat (first | ((first | (with_reducible (first | refine Qa fun K E hK hE => ?_ | refine Qr fun K E hK hE => ?_))); simp -implicitDefEqProofs only [Qd, Qb, Qf, OpW, aop, undef, AS.ev, Qc, Qn, QO, Qg, Qv, QmZ, ↓reduceIte, Nat.reduceLT, Nat.reduceEqDiff, aBin, QmU, QY, b1, b2, b3, b4, b5]) | (with_reducible (first | refine Qi fun K hK => ?_ | refine Qq ?_ | refine Qm ?_ | refine Qj ?_ | refine QA ?_ | refine QJ ?_)) | ((with_reducible refine hK _ ?_); clear hK) | (refine Qk rfl ?_; simp only [↓reduceIte, QmW]))
            simp only [QN, Qp, Qw, upd, ↓reduceIte, QmY, Qm2]; first | refine Qh (htake _ _) (.keep (.v _)) ⟨by rw [e], rfl⟩ | refine Qh List.take_length (.keep (.v _)) ⟨by rw [e], rfl⟩
        · have e : ofB s = 2 := by rw [ofB, b1, b2, b3, b4]; rfl
          refine Qe Tryz.func109 rfl Tryz.call109 Tryz.ntmps109 (congrArg Array.toList Tryz.results109) (by simp) ?_
          repeat (first | ((first | (with_reducible (first | refine Qa fun K E hK hE => ?_ | refine Qr fun K E hK hE => ?_))); simp -implicitDefEqProofs only [Qd, Qb, Qf, OpW, aop, undef, AS.ev, Qc, Qn, QO, Qg, Qv, QmZ, ↓reduceIte, Nat.reduceLT, Nat.reduceEqDiff, aBin, QmU, QY, b1, b2, b3, b4]) | (with_reducible (first | refine Qi fun K hK => ?_ | refine Qq ?_ | refine Qm ?_ | refine QD ?_ | refine Qj ?_ | refine QA ?_ | refine QJ ?_)) | ((with_reducible refine hK _ ?_); clear hK) | (refine Qk rfl ?_; simp only [↓reduceIte, QmW]))
          simp only [QN, Qp, Qw, upd, ↓reduceIte, QmY, Qm2]; first | refine Qh (htake _ _) (.keep (.v _)) ⟨by rw [e], rfl⟩ | refine Qh List.take_length (.keep (.v _)) ⟨by rw [e], rfl⟩
      · have e : ofB s = 2 := by rw [ofB, b1, b2, b3]; rfl
        refine Qe Tryz.func109 rfl Tryz.call109 Tryz.ntmps109 (congrArg Array.toList Tryz.results109) (by simp) ?_
        repeat (first | ((first | (with_reducible (first | refine Qa fun K E hK hE => ?_ | refine Qr fun K E hK hE => ?_))); simp -implicitDefEqProofs only [Qd, Qb, Qf, OpW, aop, undef, AS.ev, Qc, Qn, QO, Qg, Qv, QmZ, ↓reduceIte, Nat.reduceLT, Nat.reduceEqDiff, aBin, QmU, QY, b1, b2, b3]) | (with_reducible (first | refine Qi fun K hK => ?_ | refine Qq ?_ | refine Qm ?_ | refine QD ?_ | refine Qj ?_ | refine QA ?_ | refine QJ ?_)) | ((with_reducible refine hK _ ?_); clear hK) | (refine Qk rfl ?_; simp only [↓reduceIte, QmW]))
        simp only [QN, Qp, Qw, upd, ↓reduceIte, QmY, Qm2]; first | refine Qh (htake _ _) (.keep (.v _)) ⟨by rw [e], rfl⟩ | refine Qh List.take_length (.keep (.v _)) ⟨by rw [e], rfl⟩
    · have e : ofB s = 1 := by rw [ofB, b1, b2]; rfl
      refine Qe Tryz.func109 rfl Tryz.call109 Tryz.ntmps109 (congrArg Array.toList Tryz.results109) (by simp) ?_
      repeat (first | ((first | (with_reducible (first | refine Qa fun K E hK hE => ?_ | refine Qr fun K E hK hE => ?_))); simp -implicitDefEqProofs only [Qd, Qb, Qf, OpW, aop, undef, AS.ev, Qc, Qn, QO, Qg, Qv, QmZ, ↓reduceIte, Nat.reduceLT, Nat.reduceEqDiff, aBin, QmU, QY, b1, b2]) | (with_reducible (first | refine Qi fun K hK => ?_ | refine Qq ?_ | refine Qm ?_ | refine Qj ?_ | refine QA ?_ | refine QJ ?_)) | ((with_reducible refine hK _ ?_); clear hK) | (refine Qk rfl ?_; simp only [↓reduceIte, QmW]))
      simp only [QN, Qp, Qw, upd, ↓reduceIte, QmY, Qm2]; first | refine Qh (htake _ _) (.keep (.v _)) ⟨by rw [e], rfl⟩ | refine Qh List.take_length (.keep (.v _)) ⟨by rw [e], rfl⟩
  · have e : ofB s = 1 := by rw [ofB, b1]; rfl
    refine Qe Tryz.func109 rfl Tryz.call109 Tryz.ntmps109 (congrArg Array.toList Tryz.results109) (by simp) ?_
    repeat (first | (((with_reducible refine Qa fun K E hK hE => ?_)); simp -implicitDefEqProofs only [Qd, Qb, Qf, OpW, aop, undef, AS.ev, Qc, Qn, QO, Qg, Qv, QmZ, ↓reduceIte, Nat.reduceLT, Nat.reduceEqDiff, aBin, QmU, QY, b1]) | (with_reducible (first | refine Qi fun K hK => ?_ | refine Qq ?_ | refine Qm ?_ | refine QD ?_ | refine Qj ?_ | refine QA ?_ | refine QJ ?_)) | ((with_reducible refine hK _ ?_); clear hK) | (refine Qk rfl ?_; simp only [↓reduceIte]))
    simp only [QN, Qp, Qw, upd, ↓reduceIte, QmY, Qm2]; first | refine Qh (htake _ _) (.keep (.v _)) ⟨by rw [e], rfl⟩ | refine Qh List.take_length (.keep (.v _)) ⟨by rw [e], rfl⟩
theorem Qbi (t : T) (hl : t.args.length ≤ maxLen) : Pure Tryz.prog 68 [t.av] (.i t.oper) := by
  intro h
  have c1 := Qck t.name
  have e1 : t.av = .agg [.i t.kind, .i t.int, .v (.string t.name), .sl 4 (avs t.args) none] := by cases t; rfl
  have m1 : ((t.args.length : Int) == 2) = decide (t.args.length = 2) := by
    rw [Bool.eq_iff_iff]; simp; omega
  by_cases hk : t.kind = 2
  · by_cases hn : t.args.length = 2
    · have e : t.oper = ofB t.name := by rw [T.oper, if_neg]; omega
      have m2 : ((t.args.length : Int) != 2) = false := by simp; omega
      refine Qe Tryz.func68 rfl Tryz.call68 Tryz.ntmps68 (congrArg Array.toList Tryz.results68) (by simp) ?_
      rw [e1]
      repeat (first | ((first | (with_reducible (first | refine Qa fun K E hK hE => ?_ | refine Qz c1 ?_))); simp -implicitDefEqProofs only [Qd, Qb, Qf, OpW, QQ, aop, undef, AS.ev, Qc, Qn, Qg, Qv, QmZ, AV.Qmr, Qo, Qnc, Qnd, Qs, Qu, QI, Qne, ↓reduceIte, Qm5, Qm6, Nat.reduceAdd, Nat.reduceLT, Nat.reduceEqDiff, Qm4, Qnh, Ql, QG, QH, aBin, aLen, Q0, QmS, QmT, QmU, QmX, QmV, Qm7, Qnb, Q2, goInt, Qm0, QnD, QmW, QK, ti3, ti9, ti22, un22, Xu, XA, Xx, hk, m2, QK]) | (with_reducible (first | refine Qi fun K hK => ?_ | refine Qm ?_ | refine QD ?_ | refine Qj ?_)) | ((with_reducible refine hK _ ?_); clear hK) | (refine Qk rfl ?_; simp only [↓reduceIte, QmW]))
      simp only [QN, Qp, Qw, upd, ↓reduceIte, QmY, Qm2]; first | refine Qh (htake _ _) (.keep (.v _)) ⟨by rw [e], rfl⟩ | refine Qh List.take_length (.keep (.v _)) ⟨by rw [e], rfl⟩
    · have e : t.oper = 0 := by rw [T.oper, if_pos (.inr hn)]
      have m2 : ((t.args.length : Int) != 2) = true := by simp; omega
      refine Qe Tryz.func68 rfl Tryz.call68 Tryz.ntmps68 (congrArg Array.toList Tryz.results68) (by simp) ?_
      rw [e1]
      repeat (first | (((with_reducible refine Qa fun K E hK hE => ?_)); simp -implicitDefEqProofs only [Qd, Qb, Qf, OpW, aop, undef, AS.ev, Qc, Qn, Qg, Qv, QmZ, AV.Qmr, Qo, Qnc, Qnd, Qs, Qu, QI, Qne, ↓reduceIte, Qm5, Qm6, Nat.reduceAdd, Nat.reduceLT, Nat.reduceEqDiff, Qm4, Qnh, Ql, QG, QH, aBin, aLen, Q0, QmS, QmT, QmU, QmX, QmV, Q2, goInt, Qm0, QnD, QmW, QK, ti3, ti22, un22, Xu, Xx, hk, QK, m2]) | (with_reducible (first | refine Qi fun K hK => ?_ | refine Qm ?_ | refine QA ?_)) | ((with_reducible refine hK _ ?_); clear hK) | (refine Qk rfl ?_; simp only [↓reduceIte]))
      simp only [QN, Qp, Qw, upd, ↓reduceIte, QmY, Qm2]; first | refine Qh (htake _ _) (.keep (.v _)) ⟨by rw [e], rfl⟩ | refine Qh List.take_length (.keep (.v _)) ⟨by rw [e], rfl⟩
  · have e : t.oper = 0 := by rw [T.oper, if_pos (.inl hk)]
    have m2 : (t.kind != 2) = true := by simpa using hk
    refine Qe Tryz.func68 rfl Tryz.call68 Tryz.ntmps68 (congrArg Array.toList Tryz.results68) (by simp) ?_
    rw [e1]
    repeat (first | (((with_reducible refine Qa fun K E hK hE => ?_)); simp -implicitDefEqProofs only [Qd, Qb, Qf, OpW, aop, undef, AS.ev, Qc, Qn, Qt, Qg, Qv, QmZ, AV.Qmr, Qo, Qnc, Qnd, Qs, Qu, QI, Qne, Qnf, ↓reduceIte, Qm5, Qm6, Nat.reduceAdd, Nat.reduceLT, Nat.reduceEqDiff, Qm4, Qnh, Ql, QG, QH, aBin, Q0, QmS, QmT, QmU, QmX, QmV, Q2, beq_false, ti3, Xu, m2]) | (with_reducible (first | refine Qi fun K hK => ?_ | refine Qm ?_ | refine QA ?_)) | ((with_reducible refine hK _ ?_); clear hK) | (refine Qk rfl ?_; simp only [↓reduceIte]))
    simp only [QN, Qp, Qw, upd, ↓reduceIte, QmY, Qm2]; first | refine Qh (htake _ _) (.keep (.v _)) ⟨by rw [e], rfl⟩ | refine Qh List.take_length (.keep (.v _)) ⟨by rw [e], rfl⟩
end Go.Proofs.YtehjodmnajgdgaaGreatDoor.Ab
namespace Go.Proofs.YtehjodmnajgdgaaGreatDoor.Ab
abbrev DA := FuncId × List AV
def RelD (c : Cx) (d : DA) (x : Deferred) : Prop := ∃ caps, x.target = .fn (.func d.1) caps ∧ RelL c d.2 (x.args ++ caps)
theorem RelD.ev {c c' : Cx} (hs : St c) (h : Ev c c') {d : DA} {x : Deferred} (hr : RelD c d x) : RelD c' d x :=
  let ⟨caps, e, r⟩ := hr; ⟨caps, e, r.ev hs h⟩
inductive Ent where
  | mark (D : Nat)
  | call (d : DA) (x : Deferred)
def Ent.dfr : Ent → Deferred
  | .mark D => QhL D
  | .call _ x => x
def Ent.da : Ent → Option DA
  | .mark _ => none
  | .call d _ => some d
def Ent.mk? : Ent → Option Nat
  | .mark D => some D
  | .call _ _ => none
def Ent.ok (c : Cx) (lo : Nat) : Ent → Prop
  | .mark D => lo ≤ D ∧ c.w.heap[D]? = some (.deferred (some [])) ∧ ¬ c.owns D
  | .call d x => RelD c d x
theorem Ent.ok.ev {c c' : Cx} (hs : St c) (h : Ev c c') {lo : Nat} {e : Ent} (hk : e.ok c lo) : e.ok c' lo := by
  cases e with
  | mark D =>
    obtain ⟨h1, h2, h3⟩ := hk
    have hlt := (Array.getElem?_eq_some_iff.1 h2).1
    exact ⟨h1, (h.frame D hlt h3).trans h2, fun ho => h3 (h.owns hlt ho)⟩
  | call d x => exact RelD.ev hs h hk
def DefsOk (c : Cx) (lo : Nat) (ds : List DA) (l : List Deferred) : Prop :=
  ∃ es : List Ent, l = es.map Ent.dfr ∧ ds = es.filterMap Ent.da ∧ (es.filterMap Ent.mk?).Nodup ∧ ∀ e ∈ es, e.ok c lo
theorem DefsOk.ev {c c' : Cx} (hs : St c) (h : Ev c c') {lo : Nat} {ds : List DA} {l : List Deferred} (hd : DefsOk c lo ds l) : DefsOk c' lo ds l :=
  let ⟨es, h1, h2, h3, h4⟩ := hd; ⟨es, h1, h2, h3, fun e he => (h4 e he).ev hs h⟩
theorem QjV (Ds : List Nat) : (Ds.map Ent.mark).map Ent.dfr = Ds.map QhL := by rw [List.map_map]; rfl
theorem QkE (Ds : List Nat) : (Ds.map Ent.mark).filterMap Ent.da = [] := by
  induction Ds with
  | nil => rfl
  | cons D Ds ih => rw [List.map_cons, List.filterMap_cons, ih]; rfl
theorem QkQ (Ds : List Nat) : (Ds.map Ent.mark).filterMap Ent.mk? = Ds := by
  induction Ds with
  | nil => rfl
  | cons D Ds ih => rw [List.map_cons, List.filterMap_cons, ih]; rfl
theorem DefsOk.marks {c c' : Cx} (hs : St c) (h : Ev c c') {lo : Nat} {ds : List DA} {l l' : List Deferred} (hlo : lo ≤ c.w.heap.size) (hd : DefsOk c lo ds l) (hd' : DefOk c' ⟨c.w.heap.size, l⟩ l') : DefsOk c' lo ds l' := by
  obtain ⟨Ds, f1, f2, f3⟩ := hd'
  obtain ⟨es, e1, e2, e3, e4⟩ := hd
  refine ⟨Ds.map Ent.mark ++ es, ?_, ?_, ?_, ?_⟩
  · rw [f1, List.map_append, QjV, e1]
  · rw [List.filterMap_append, QkE, List.nil_append, e2]
  · rw [List.filterMap_append, QkQ, List.nodup_append]
    refine ⟨f2, e3, fun a ha b hb hab => ?_⟩
    subst hab
    have g1 := (f3 a ha).1
    simp only [List.mem_filterMap] at hb
    obtain ⟨e, he, hm⟩ := hb
    cases e with
    | call d x => cases hm
    | mark D =>
      simp only [Ent.mk?, QmY] at hm
      subst hm
      have := (Array.getElem?_eq_some_iff.1 (e4 _ he).2.1).1
      simp only at g1
      omega
  · intro e he
    rcases List.mem_append.1 he with he | he
    · obtain ⟨D, hD, rfl⟩ := List.mem_map.1 he
      obtain ⟨g1, g2, g3⟩ := f3 D hD
      exact ⟨Nat.le_trans hlo g1, g2, g3⟩
    · exact (e4 e he).ev hs h
structure SRd (N lo : Nat) (c : Cx) (s : AS) (a : Act) (ds : List DA) : Prop where
  h : c.h = s.h
  size : a.tmps.size = N
  above : lo ≤ c.w.heap.size
  defs : DefsOk c lo ds a.defers
  tm : ∀ t, Rel c (s.tm t) (a.tmps.getD t undef)
theorem SRd.sr {N lo : Nat} {c : Cx} {s : AS} {a : Act} {ds : List DA} (h : SRd N lo c s a ds) {F : Fence} (hro : F.round = none) : SR N (⟨c.w.heap.size, a.defers⟩, F) c s a :=
  ⟨h.h, h.size, Nat.le_refl _, ⟨[], rfl, List.nodup_nil, fun D hD => by cases hD⟩, fun l hl => (by rw [hro] at hl; cases hl), h.tm⟩
theorem SRd.QmH {N lo : Nat} {c c' : Cx} {s s' : AS} {a a' : Act} {ds : List DA} {F : Fence} (hs : St c) (h : SRd N lo c s a ds) (hev : Ev c c') (hr : SR N (⟨c.w.heap.size, a.defers⟩, F) c' s' a') : SRd N lo c' s' a' ds :=
  ⟨hr.h, hr.size, Nat.le_trans h.above hev.size, h.defs.marks hs hev h.above hr.defers, hr.tm⟩
def DefW (P : Program) (N : Nat) (code : Code) (Q : AExit → AS → List DA → Prop) (s : AS) (ds : List DA) : Prop :=
  ∀ (F : Fence) (n lo : Nat) (c : Cx) (a : Act), WF F → F.round = none → St c → SRd N lo c s a ds →
    ∀ R : Exit → Act → World → Prop, (∀ e s' ds' c' a' e', Q e s' ds' → Ev c c' → St c' → SRd N lo c' s' a' ds' → ExC c' e e' → R e' a' c'.w) → code.wpIn F n P R a c.w
section rules
variable {P : Program} {N : Nat} {Q : AExit → AS → List DA → Prop} {s : AS} {ds : List DA}
theorem XU {code : Code} (H : Yy P N code (fun e s' => Q e s' ds) s) : DefW P N code Q s ds := by
  intro F n lo c a hF hro hst hr R hR
  refine H F n ⟨c.w.heap.size, a.defers⟩ c a hF hst (hr.sr hro) R fun e s' c' a' e' hQ hev hst' hsr hex => ?_
  exact hR e s' ds c' a' e' hQ hev hst' (hr.QmH hst hev hsr) hex
def AExit.QmM (K : AS → List DA → Prop) (Q : AExit → AS → List DA → Prop) : AExit → AS → List DA → Prop
  | .normal, s, ds => K s ds
  | e, s, ds => Q e s ds
theorem Yi {x y : Code} (h : DefW P N x (AExit.QmM (fun s ds => DefW P N y Q s ds) Q) s ds) : DefW P N (.seq x y) Q s ds := by
  intro F n lo c a hF hro hs hr R hR
  refine wpIn_seq (h F n lo c a hF hro hs hr _ ?_)
  intro e s' ds' c' a' e' hQ hev hst hsr hex
  cases e with
  | normal =>
    cases hex
    exact hQ F n lo c' a' hF hro hst hsr R fun e s2 ds2 c2 a2 e2 hQ2 hev2 hst2 hsr2 hex2 => hR e s2 ds2 c2 a2 e2 hQ2 (Ev.trans hs hev hev2) hst2 hsr2 hex2
  | exit id => cases hex; exact hR _ s' ds' c' a' _ hQ hev hst hsr rfl
  | ret => cases hex; exact hR _ s' ds' c' a' _ hQ hev hst hsr rfl
  | panic av => obtain ⟨x, rfl, hx⟩ := hex; exact hR _ s' ds' c' a' _ hQ hev hst hsr ⟨x, rfl, hx⟩
theorem Qi7 {o : Operand} {x y : Code} {t : Bool} (ho : s.ev o = .v (.bool t)) (h : DefW P N (if t then x else y) Q s ds) : DefW P N (.cond o x y) Q s ds := by
  intro F n lo c a hF hro hs hr R hR
  have he := (hr.sr hro).eval o
  rw [ho] at he
  have hx : a.eval o = .bool t := by
    generalize a.eval o = u at he
    cases he; rfl
  exact wpIn_cond hx (h F n lo c a hF hro hs hr R hR)
theorem QbJ {id : Nat} {ops : Array Oper} (i : Nat) {o : Oper} {cl : Call} {f : Operand} (ho : ops.toList[i]? = some o) (hop : o.op = .defer cl) (hcl : cl.callee = .value f)
    (H : OpsW P N ops (ops.toList.take i) (fun s1 => Qf ops s1.tm o = some true ∧ ∃ g first cap, s1.ev f = .fn (.func g) first cap ∧
      OpsW P N ops (ops.toList.drop (i + 1)) (fun s2 => Q .normal s2 ((g, first ++ cl.args.toList.map s1.ev ++ cap) :: ds)) (fun r s2 => Q (.panic r) s2 ((g, first ++ cl.args.toList.map s1.ev ++ cap) :: ds)) (AS.put N s1 o.dst (.v undef)))
      (fun r s1 => Q (.panic r) s1 ds) s) : DefW P N (.region id ops false) Q s ds := by
  intro F n lo c a hF hro hst hr R hR
  refine wpIn_region ?_
  have hlt := QS ho
  have hi : (ops.toList.take i).length = i := by rw [List.length_take]; omega
  have hrange : List.range ops.size = List.range' 0 (ops.toList.take i).length ++ (i :: (List.range' (i + 1) (ops.toList.drop (i + 1)).length ++ [])) := by
    rw [hi, List.append_nil, List.length_drop, List.range_eq_range', ← Array.length_toList]
    have : ops.toList.length = i + (1 + (ops.toList.length - (i + 1))) := by omega
    conv => lhs; rw [this]
    rw [← List.range'_append_1, Nat.zero_add, ← List.range'_append_1]
    rfl
  have hget : ∀ j, (ops.toList.drop (i + 1))[j]? = ops[i + 1 + j]? := fun j => by rw [List.getElem?_drop]; simp
  rw [hrange]
  refine Qct hF (ops.toList.take i) 0 s c a (fun j hj => by rw [List.getElem?_take, if_pos (by omega)]; simp) H hst (hr.sr hro) ?_ ?_
  · intro s1 c1 a1 h1 h2 h3 h4
    have h0 : ops[i]? = some o := by rw [← ho]; simp
    obtain ⟨hw, g, first, cap, hf, hpost⟩ := h1
    simp only [wpOpsIn, h0]
    rw [XP h4 hw]
    simp only [if_true]
    have hr1 := hr.QmH hst h2 h4
    have hfv := h4.eval f
    rw [hf] at hfv
    obtain ⟨vs, ws, hae, hv1, hv2⟩ : ∃ vs ws, a1.eval f = .func (.func g) vs ws ∧ RelL c1 first vs ∧ RelL c1 cap ws := by
      generalize a1.eval f = u at hfv
      cases hfv with
      | fn _ _ _ vs ws e1 e2 g1 g2 => exact ⟨vs, ws, rfl, ⟨e1, g1⟩, ⟨e2, g2⟩⟩
    have hargs : RelL c1 (cl.args.toList.map s1.ev) (cl.args.map a1.eval) := by
      refine ⟨by simp, fun j x u hx hu => ?_⟩
      rw [List.getElem?_map] at hx
      rw [Array.getElem?_map] at hu
      cases hj : cl.args[j]? with
      | none => simp [hj] at hu
      | some q =>
        simp only [hj, QmU, QmY] at hu
        simp only [Array.getElem?_toList, hj, QmU, QmY] at hx
        subst hx; subst hu
        exact h4.eval q
    have hD : RelD c1 (g, first ++ cl.args.toList.map s1.ev ++ cap) ⟨.fn (.func g) ws, vs ++ cl.args.map a1.eval⟩ := ⟨ws, rfl, RelL.append (RelL.append hv1 hargs) hv2⟩
    have hrun : (execOp a1.eval o).run P c1.w = .ok (.defer ⟨.fn (.func g) ws, vs ++ cl.args.map a1.eval⟩) c1.w := by
      simp only [execOp, hop, resolve, hcl, hae, Deferred.ofValue, Sem.run_bind, Sem.run_pure, Result.andThen_ok]
    refine ⟨fun f _ => hF.fn f, ?_⟩
    rw [hro, Oper.semAt_none, hrun, Oper.uponIn_defer]
    have hput := h4.put h3 (Ev.refl c1) o.dst (.v undef)
    rw [h4.h] at hput
    have hd2 : DefsOk c1 lo ((g, first ++ cl.args.toList.map s1.ev ++ cap) :: ds) (⟨.fn (.func g) ws, vs ++ cl.args.map a1.eval⟩ :: a1.defers) := by
      obtain ⟨es, e1, e2, e3, e4⟩ := hr1.defs
      refine ⟨.call _ ⟨.fn (.func g) ws, vs ++ cl.args.map a1.eval⟩ :: es, by rw [e1]; rfl, by rw [e2]; rfl, e3, fun e he => ?_⟩
      rcases List.mem_cons.1 he with rfl | he
      · exact hD
      · exact e4 e he
    have hdf : ((({ a1 with defers := ⟨.fn (.func g) ws, vs ++ cl.args.map a1.eval⟩ :: a1.defers } : Act).put o.dst undef)).defers = ⟨.fn (.func g) ws, vs ++ cl.args.map a1.eval⟩ :: a1.defers := by
      cases o.dst <;> rfl
    have htm : ((({ a1 with defers := ⟨.fn (.func g) ws, vs ++ cl.args.map a1.eval⟩ :: a1.defers } : Act).put o.dst undef)).tmps = (a1.put o.dst undef).tmps := by
      cases o.dst <;> rfl
    have hr2 : SRd N lo c1 (AS.put N s1 o.dst (.v undef)) (({ a1 with defers := ⟨.fn (.func g) ws, vs ++ cl.args.map a1.eval⟩ :: a1.defers } : Act).put o.dst undef) ((g, first ++ cl.args.toList.map s1.ev ++ cap) :: ds) :=
      ⟨hput.h, by rw [htm]; exact hput.size, hr1.above, by rw [hdf]; exact hd2, fun t => by rw [htm]; exact hput.tm t⟩
    refine Qct hF _ (i + 1) _ c1 _ (fun j _ => hget j) hpost h3 (hr2.sr hro) ?_ ?_
    · intro s' c' a' hQ k1 k2 k3
      simp only [wpOpsIn]
      exact hR _ s' _ c' a' _ hQ (Ev.trans hst h2 k1) k2 (hr2.QmH h3 k1 k3) rfl
    · intro r s' c' a' x hQ k1 k2 k3 hx
      exact hR _ s' _ c' a' _ hQ (Ev.trans hst h2 k1) k2 (hr2.QmH h3 k1 k3) ⟨x, rfl, hx⟩
  · intro r s' c' a' x hQ h1 h2 h3 hx
    exact hR _ s' ds c' a' _ hQ h1 h2 (hr.QmH hst h1 h3) ⟨x, rfl, hx⟩
end rules
inductive AMode where
  | ret
  | pan (v : AV) (recovered : Bool)
def MdC (c : Cx) : AMode → FrameMode → Prop
  | .ret, u => u = .returning
  | .pan v b, u => ∃ x, u = .panicking [{ v := x, recovered := b }] ∧ Rel c v x
theorem MdC.ev {c c' : Cx} (hs : St c) (h : Ev c c') {m : AMode} {u : FrameMode} (hm : MdC c m u) : MdC c' m u := by
  cases m with
  | ret => exact hm
  | pan v b => obtain ⟨x, e, r⟩ := hm; exact ⟨x, e, r.ev hs h⟩
theorem MdC.run {c : Cx} {m : AMode} {u : FrameMode} (hm : MdC c m u) : u ≠ .run := by
  cases m with
  | ret => rw [show u = .returning from hm]; simp
  | pan v b => obtain ⟨x, e, r⟩ := hm; rw [e]; simp
def AMode.settle : AMode → AMode
  | .pan _ true => .ret
  | m => m
theorem MdC.settle {c : Cx} {m : AMode} {u : FrameMode} (hm : MdC c m u) : MdC c m.settle (Go.settle u) := by
  cases m with
  | ret => rw [show u = .returning from hm]; rfl
  | pan v b =>
    obtain ⟨x, rfl, r⟩ := hm
    cases b with
    | true => rfl
    | false => exact ⟨x, rfl, r⟩
def ZV (P : Program) (f : FuncId) (args : List AV) (h : AH) (m : AMode) (Q : AMode → AH → Prop) : Prop :=
  (∀ vals w, (callFunc f vals).run P w = .ok (.enter f vals) w) ∧
  ∀ (F : Fence) (n : Nat) (c : Cx) (vals : Array Value) (u : FrameMode), WF F → F.round = none → St c → c.h = h → RelL c args vals → MdC c m u →
    CallsDIn F n P f vals u c.w fun e u' w' => ∃ x m' c', e = .returned x ∧ Q m' c'.h ∧ Ev c c' ∧ St c' ∧ c'.w = w' ∧ MdC c' m' u'
def Qc6 (P : Program) (rs : List ResultVar) (h : AH) (Q : AOut → AH → Prop) : List DA → AMode → AS → Prop
  | [], .ret, s => QN P rs h Q .ret s
  | [], .pan v _, s => QN P rs h Q (.panic v) s
  | d :: ds, m, s => ZV P d.1 d.2 s.h m fun m' h' => Qc6 P rs h Q ds m'.settle ⟨s.tm, h'⟩
structure Out (N : Nat) (c : Cx) (s : AS) (tmps : Array Value) : Prop where
  h : c.h = s.h
  size : tmps.size = N
  tm : ∀ t, Rel c (s.tm t) (tmps.getD t undef)
theorem Qap {P : Program} {F : Fence} (hF : WF F) (hro : F.round = none) {n : Nat} {fn : Func} {tmps : Array Value} {rs : List ResultVar} (hrs : fn.results.toList = rs) {Q : AOut → AH → Prop} {c0 : Cx} (hs0 : St c0) :
    ∀ (es : List Ent) (c : Cx) (s : AS) (m : AMode) (u : FrameMode), Ev c0 c → St c → Out fn.ntmps c s tmps → (es.filterMap Ent.mk?).Nodup → (∀ e ∈ es, e.ok c c0.w.heap.size) → MdC c m u → (∀ v, m ≠ .pan v true) →
      Qc6 P rs c0.h Q (es.filterMap Ent.da) m s →
      LeavesInM F n P fn tmps (fun e w' => ∃ o c', Q o c'.h ∧ Ev c0 c' ∧ St c' ∧ c'.w = w' ∧ EndC c' o e) (es.map Ent.dfr) u c.w
  | [], c, s, m, u, hev, hst, hout, _, _, hm, hnr, H => by
    have hsr : SR fn.ntmps (⟨0, []⟩, F) c s { tmps := tmps, defers := [] } := ⟨hout.h, hout.size, Nat.zero_le _, ⟨[], rfl, List.nodup_nil, fun D h => by cases h⟩, fun l hl => (by rw [hro] at hl; cases hl), hout.tm⟩
    cases m with
    | ret =>
      rw [show u = .returning from hm]
      obtain ⟨r, hres, hl⟩ := (show QN P rs c0.h Q .ret s from H)
      subst hrs
      obtain ⟨x, hrun, hx⟩ := QaK hst hsr hres
      rw [← hout.h] at hl
      obtain ⟨c3, r', h1, h2, h3, h4, h5⟩ := ZS hs0 hst hev hx hl
      exact ⟨x, hrun, .ret r', c3, h1, h2, h3, h4, x, rfl, h5⟩
    | pan v b =>
      obtain ⟨x, rfl, hx⟩ := hm
      have hl : Leaves c0.h s.h v fun r h' => Q (.panic r) h' := H
      rw [← hout.h] at hl
      obtain ⟨c3, r', h1, h2, h3, h4, h5⟩ := ZS hs0 hst hev hx hl
      cases b with
      | true => exact absurd rfl (hnr v)
      | false => exact ⟨.panic r', c3, h1, h2, h3, h4, x, rfl, h5⟩
  | .mark D :: es, c, s, m, u, hev, hst, hout, hnd, hok, hm, hnr, H => by
    obtain ⟨hD1, hD2, hD3⟩ := hok (.mark D) (by simp)
    simp only [Qm7, LeavesInM]
    refine ⟨hm.run, .inl ⟨D, _, rfl, ZE hD2, ?_⟩⟩
    have hnd' := List.nodup_cons.1 (show (D :: es.filterMap Ent.mk?).Nodup from hnd)
    have hold : ∀ k, k ≠ D → ({ c.w with heap := c.w.heap.setIfInBounds D (.deferred none) } : World).heap[k]? = c.w.heap[k]? := fun k hk => by
      show (c.w.heap.setIfInBounds D _)[k]? = _
      rw [Array.getElem?_setIfInBounds_ne (fun e => hk e.symm)]
    have hsz : ({ c.w with heap := c.w.heap.setIfInBounds D (.deferred none) } : World).heap.size = c.w.heap.size := by simp
    have hidle : ∀ k, ({ c.w with heap := c.w.heap.setIfInBounds D (.deferred none) } : World).heap[k]? = c.w.heap[k]? ∨ (c0.w.heap.size ≤ k ∧ ¬ c.owns k ∧ ∃ o, c.w.heap[k]? = some (.deferred o)) := fun k => by
      by_cases hk : k = D
      · subst hk; exact .inr ⟨hD1, hD3, _, hD2⟩
      · exact .inl (hold k hk)
    have hcells : ∀ (k : Nat) cs t fr, c.w.heap[k]? = some (Obj.cells cs t fr) → ({ c.w with heap := c.w.heap.setIfInBounds D (.deferred none) } : World).heap[k]? = c.w.heap[k]? := fun k cs t fr hk => by
      rcases hidle k with h | ⟨_, _, o, h⟩
      · exact h
      · rw [hk] at h; cases h
    have hst2 := hst.idle hsz fun k o hk => by
      rcases hidle k with h | ⟨_, _, d, h⟩
      · exact .inl (h.trans hk)
      · rw [hk] at h; cases h; exact .inr ⟨d, rfl⟩
    have hrel : ∀ a x, Rel c a x → Rel (c.to { c.w with heap := c.w.heap.setIfInBounds D (.deferred none) }) a x := fun a x hax => hax.idle hsz hcells
    refine Qap hF hro hrs hs0 es (c.to _) s m u (Ev.idle hst hev rfl rfl rfl hsz hidle) hst2 ⟨hout.h, hout.size, fun t => hrel _ _ (hout.tm t)⟩ hnd'.2 (fun e he => ?_) ?_ hnr H
    · have := hok e (by simp [he])
      cases e with
      | mark D' =>
        obtain ⟨g1, g2, g3⟩ := this
        have hne : D' ≠ D := fun h => hnd'.1 (by subst h; exact List.mem_filterMap.2 ⟨_, he, rfl⟩)
        exact ⟨g1, (hold D' hne).trans g2, g3⟩
      | call d x =>
        obtain ⟨caps, e, r⟩ := this
        exact ⟨caps, e, r.1, fun j a u h1 h2 => hrel _ _ (r.2 j a u h1 h2)⟩
    · cases m with
      | ret => exact hm
      | pan v b => obtain ⟨x, e, r⟩ := hm; exact ⟨x, e, hrel _ _ r⟩
  | .call d x :: es, c, s, m, u, hev, hst, hout, hnd, hok, hm, hnr, H => by
    obtain ⟨caps, htar, hargs⟩ := hok (.call d x) (by simp)
    obtain ⟨hcall, hbody⟩ := (show ZV P d.1 d.2 s.h m fun m' h' => Qc6 P rs c0.h Q (es.filterMap Ent.da) m'.settle ⟨s.tm, h'⟩ from H)
    simp only [Qm7, LeavesInM, Ent.dfr]
    refine ⟨hm.run, .inr ⟨fun hd => by simp [hF.depth] at hd, _, _, d.1, x.args ++ caps, htar, by rw [htar]; simp only [invoke, hcall], fun _ _ => hF.fn _, ?_⟩⟩
    refine (hbody F (n - 1) c _ u hF hro hst hout.h hargs hm).mono ?_
    rintro e u' w' ⟨y, m', c', rfl, hQ, hev', hst', rfl, hm'⟩
    refine Qap hF hro hrs hs0 es c' ⟨s.tm, c'.h⟩ m'.settle (Go.settle u') (Ev.trans hs0 hev hev') hst' ⟨rfl, hout.size, fun t => (hout.tm t).ev hst hev'⟩ hnd (fun e he => (hok e (by simp [he])).ev hst hev') hm'.settle (fun v h => ?_) hQ
    cases m' with
    | ret => cases h
    | pan v' b => cases b <;> cases h
def Qfj (P : Program) (rs : List ResultVar) (h : AH) (Q : AOut → AH → Prop) : AExit → AS → List DA → Prop
  | .normal, s, ds | .ret, s, ds => Qc6 P rs h Q ds .ret s
  | .panic v, s, ds => Qc6 P rs h Q ds (.pan v false) s
  | .exit _, _, _ => False
theorem ZK {P : Program} {f : FuncId} {fn : Func} {code : Code} {args : List AV} {h : AH} {Q : AOut → AH → Prop} (hf : P.funcs[f]? = some fn) (hb : fn.body = some code)
    (hcall : ∀ vals w, (callFunc f vals).run P w = .ok (.enter f vals) w) {N : Nat} (hN : fn.ntmps = N) {rs : List ResultVar} (hrs : fn.results.toList = rs) (hn : args.length ≤ N) (H : DefW P N code (Qfj P rs h Q) ⟨Qv args, h⟩ []) : Xf P f args h Q := by
  subst hN
  refine ⟨hcall, fun F n c vals hF hs hh hvals => QaE ?_⟩
  subst hh
  refine callsIn_of_wp_marks hf hb (hF.plain.fn f) ?_
  have hsr : SRd fn.ntmps c.w.heap.size c ⟨Qv args, c.h⟩ { tmps := vals ++ Array.replicate (fn.ntmps - vals.size) undef, defers := [] } [] := by
    refine ⟨rfl, by have := hvals.1; simp; omega, Nat.le_refl _, ⟨[], rfl, rfl, List.nodup_nil, fun e h => by cases h⟩, fun t => ?_⟩
    simp only [Qv]
    rw [Array.getD_eq_getD_getElem?, Array.getElem?_append, List.getD_eq_getElem?_getD]
    have hsz := hvals.1
    by_cases ht : t < vals.size
    · rw [if_pos ht]
      obtain ⟨u, hu⟩ : ∃ u, vals[t]? = some u := ⟨_, Array.getElem?_eq_getElem ht⟩
      obtain ⟨a, ha⟩ : ∃ a, args[t]? = some a := ⟨_, List.getElem?_eq_getElem (by omega)⟩
      rw [hu, ha]
      exact hvals.2 t a u ha hu
    · rw [if_neg ht, List.getElem?_eq_none (by omega), Array.getElem?_replicate]
      split
      · exact .v _
      · exact .v _
  refine H F.plain n c.w.heap.size c _ hF.plain rfl hs hsr _ ?_
  intro e s' ds' c' a' e' hQ hev hst hr hex
  obtain ⟨es, e1, e2, e3, e4⟩ := hr.defs
  subst e2
  have hout : Out fn.ntmps c' s' a'.tmps := ⟨hr.h, hr.size, hr.tm⟩
  have key := fun (m : AMode) (u : FrameMode) (hm : MdC c' m u) (hnr : ∀ v, m ≠ .pan v true) H => e1 ▸ Qap (P := P) hF.plain rfl (n := n) (fn := fn) (tmps := a'.tmps) hrs (Q := Q) hs es c' s' m u hev hst hout e3 e4 hm hnr H
  cases e with
  | normal => cases hex; exact key .ret .returning rfl (fun v h => by cases h) hQ
  | ret => cases hex; exact key .ret .returning rfl (fun v h => by cases h) hQ
  | panic av =>
    obtain ⟨x, rfl, hx⟩ := hex
    exact key (.pan av false) _ ⟨x, rfl, hx⟩ (fun v h => by cases h) hQ
  | exit id => exact hQ.elim
theorem Zk {P : Program} {F : Fence} {n : Nat} {fn : Func} {tmps : Array Value} {R : Ending → World → Prop} : ∀ (ds : List Deferred) (u : FrameMode) (w : World) (fr : Frame)
    (cs : List Frame), fr.mode = u → fr.defers = ds → fr.tmps = tmps → P.funcs[fr.fn]? = some fn → fr.kind = .deferred → F.fn fr.fn → F.room (cs.length + 1 + n) → LeavesInM F n P fn tmps R ds u w →
    ∃ e w' fr', R e w' ∧ ComesIn (Machine.fenced P F) P (lone fr cs w) (lone fr' cs w') e ∧ fr'.fn = fr.fn ∧ fr'.kind = .deferred ∧ fr'.going P w' e := by
  intro ds
  induction ds with
  | nil =>
    intro u w fr cs hu hd ht hf hk _ _ h
    cases u with
    | run => exact h.elim
    | returning =>
      obtain ⟨v, hr, hR⟩ := h
      exact ⟨.returned v, w, fr, hR, StepsIn.refl _, rfl, hk, hu, hd, fn, hf, ht ▸ hr⟩
    | panicking chain => exact ⟨.panicked chain, w, fr, h, StepsIn.refl _, rfl, hk, hu, hd, fn, hf⟩
  | cons d ds ih =>
    intro u w fr cs hu hd ht hf hk hb hroom h
    obtain ⟨hrun, h⟩ := h
    rcases h with ⟨r, w', htar, htake, hrest⟩ | ⟨hn, fv, cap, f, args, htar, hinv, hlead, hFf, hcall⟩
    · have h1 := step_collected (cs := cs) (hu ▸ hrun) hd htar htake
      have i1 : (lone fr cs w).fenced P F := fenced_out hb hroom (hu ▸ hrun) hd (fun g hg => by rw [htar] at hg; simp [Target.leads] at hg)
      obtain ⟨e', w'', fr', hR', hs', hfn', hl'⟩ := ih u w' { fr with defers := [] ++ ds } cs hu rfl ht hf hk hb hroom hrest
      exact ⟨e', w'', fr', hR', ComesIn.of_steps (.one i1 h1) hs', hfn', hl'⟩
    · have h1 := step_defer (cs := cs) (hu ▸ hrun) hd htar hinv
      have i1 : (lone fr cs w).fenced P F := fenced_out hb hroom (hu ▸ hrun) hd hlead
      have hroom' : F.room (({ fr with defers := ds } :: cs).length + 1 + (n - 1)) := Fence.room_enter hroom hn
      obtain ⟨e, u', w', frX, hR, hsteps, hkX, hfX, hgo⟩ := hcall { fr with defers := ds } cs hu hroom'
      cases e with
      | outgrown => exact ⟨.outgrown, w', fr, hR, Outgrown.of_steps (.one h1) hsteps, rfl, hk, trivial⟩
      | returned v =>
        have i2 : (lone frX ({ { fr with defers := ds } with mode := u' } :: cs) w').fenced P F := fenced_going (n := n - 1) (hfX ▸ hFf) hroom' hgo
        have h2 := step_going_returned (c := { { fr with defers := ds } with mode := u' }) (cs := cs) hkX hgo
        obtain ⟨e', w'', fr', hR', hs', hfn', hl'⟩ := ih (Go.settle u') w' { { { fr with defers := ds } with mode := u' } with mode := Go.settle u' } cs rfl rfl ht hf hk hb hroom hR
        exact ⟨e', w'', fr', hR', ComesIn.of_steps (.head i1 h1 (StepsIn.trans hsteps (.one i2 h2))) hs', hfn', hl'⟩
      | panicked chain =>
        have i2 : (lone frX ({ { fr with defers := ds } with mode := u' } :: cs) w').fenced P F := fenced_going (n := n - 1) (hfX ▸ hFf) hroom' hgo
        have h2 := step_going_panicked (c := { { fr with defers := ds } with mode := u' }) (cs := cs) hgo
        obtain ⟨e', w'', fr', hR', hs', hfn', hl'⟩ := ih (raised u' chain) w' { { { fr with defers := ds } with mode := u' } with mode := raised u' chain } cs rfl rfl ht hf hk hb hroom hR
        exact ⟨e', w'', fr', hR', ComesIn.of_steps (.head i1 h1 (StepsIn.trans hsteps (.one i2 h2))) hs', hfn', hl'⟩
theorem Qbw {P : Program} {F : Fence} {n : Nat} {f : FuncId} {fn : Func} {c : Code} {args : Array Value} {u : FrameMode} {w : World} {R : Ending → World → Prop}
    (hf : P.funcs[f]? = some fn) (hb : fn.body = some c) (hF : F.fn f)
    (h : c.wpIn F n P (bodyPostM F n P fn R) { tmps := args ++ Array.replicate (fn.ntmps - args.size) undef, defers := [] } w) (hro : F.round = none) :
    CallsDIn F n P f args u w fun e u' w' => u' = u ∧ R e w' := by
  refine ⟨hF, fun c₀ cs hu hr => ?_⟩
  let b : Frame := { (default : Frame) with fn := f, kind := .deferred, roundOf := none }
  have henter : Frame.enter P f args .deferred =
      b.atR { tmps := args ++ Array.replicate (fn.ntmps - args.size) undef, defers := [] } [.code c] := by
    simp [Frame.enter, Frame.atR, hf, hb, b]
  have hc : ({ c₀ with mode := u } : Frame) = c₀ := by subst hu; rfl
  obtain ⟨e, a', w', hq, harr⟩ := h b [] (c₀ :: cs) hro.symm hF hr
  rw [← henter] at harr
  cases e with
  | normal =>
    obtain ⟨e', w'', fr', hR, hs, hfn, hk, hl⟩ := Zk a'.defers .returning w' { b.atR a' [] with mode := .returning } (c₀ :: cs) rfl rfl rfl hf rfl hF hr hq
    exact ⟨e', u, w'', fr', ⟨rfl, hR⟩, (by rw [hc]; exact ComesIn.of_steps (StepsIn.trans harr (.one (fenced_calm (fr := b.atR a' []) hF hr rfl) (stepR_end rfl))) hs), hk, hfn, hl⟩
  | ret =>
    obtain ⟨todo, hs₀⟩ := harr.1 rfl
    obtain ⟨e', w'', fr', hR, hs, hfn, hk, hl⟩ := Zk a'.defers .returning w' { b.atR a' todo with mode := .returning } (c₀ :: cs) rfl rfl rfl hf rfl hF hr hq
    exact ⟨e', u, w'', fr', ⟨rfl, hR⟩, (by rw [hc]; exact ComesIn.of_steps hs₀ hs), hk, hfn, hl⟩
  | panic chain =>
    obtain ⟨todo, hs₀⟩ := harr
    obtain ⟨e', w'', fr', hR, hs, hfn, hk, hl⟩ := Zk a'.defers (.panicking chain) w' { b.atR a' todo with mode := .panicking chain } (c₀ :: cs) rfl rfl rfl hf rfl hF hr hq
    exact ⟨e', u, w'', fr', ⟨rfl, hR⟩, (by rw [hc]; exact ComesIn.of_steps hs₀ hs), hk, hfn, hl⟩
  | exit id => exact hq.elim
  | goto l => exact hq.elim
  | outgrown => exact ⟨.outgrown, u, w', b, ⟨rfl, hq⟩, harr.resolve_left (by simp [b]), rfl, rfl, trivial⟩
theorem QdH {P : Program} {f : FuncId} {fn : Func} {code : Code} {args : List AV} {h : AH} {Q : AH → Prop} (hf : P.funcs[f]? = some fn) (hb : fn.body = some code)
    (hcall : ∀ vals w, (callFunc f vals).run P w = .ok (.enter f vals) w) {N : Nat} (hN : fn.ntmps = N) {rs : List ResultVar} (hrs : fn.results.toList = rs) (hn : args.length ≤ N)
    (H : DefW P N code (Qfj P rs h fun o h' => (∃ r, o = .ret r) ∧ Q h') ⟨Qv args, h⟩ []) (m : AMode) : ZV P f args h m fun m' h' => m' = m ∧ Q h' := by
  subst hN
  refine ⟨hcall, fun F n c vals u hF hro hs hh hvals hm => ?_⟩
  subst hh
  refine (Qbw (R := fun e w' => ∃ (o : AOut) (c' : Cx), ((∃ r, o = AOut.ret r) ∧ Q c'.h) ∧ Ev c c' ∧ St c' ∧ c'.w = w' ∧ EndC c' o e) hf hb (hF.fn f) ?_ hro).mono ?_
  · have hsr : SRd fn.ntmps c.w.heap.size c ⟨Qv args, c.h⟩ { tmps := vals ++ Array.replicate (fn.ntmps - vals.size) undef, defers := [] } [] := by
      refine ⟨rfl, by have := hvals.1; simp; omega, Nat.le_refl _, ⟨[], rfl, rfl, List.nodup_nil, fun e h => by cases h⟩, fun t => ?_⟩
      simp only [Qv]
      rw [Array.getD_eq_getD_getElem?, Array.getElem?_append, List.getD_eq_getElem?_getD]
      have hsz := hvals.1
      by_cases ht : t < vals.size
      · rw [if_pos ht]
        obtain ⟨u, hu⟩ : ∃ u, vals[t]? = some u := ⟨_, Array.getElem?_eq_getElem ht⟩
        obtain ⟨a, ha⟩ : ∃ a, args[t]? = some a := ⟨_, List.getElem?_eq_getElem (by omega)⟩
        rw [hu, ha]
        exact hvals.2 t a u ha hu
      · rw [if_neg ht, List.getElem?_eq_none (by omega), Array.getElem?_replicate]
        split
        · exact .v _
        · exact .v _
    refine H F n c.w.heap.size c _ hF hro hs hsr _ ?_
    intro e s' ds' c' a' e' hQ hev hst hr hex
    obtain ⟨es, e1, e2, e3, e4⟩ := hr.defs
    subst e2
    have hout : Out fn.ntmps c' s' a'.tmps := ⟨hr.h, hr.size, hr.tm⟩
    have key := fun (m : AMode) (u : FrameMode) (hm : MdC c' m u) (hnr : ∀ v, m ≠ .pan v true) H => e1 ▸ Qap (P := P) hF hro (n := n) (fn := fn) (tmps := a'.tmps) hrs (Q := fun o h' => (∃ r, o = AOut.ret r) ∧ Q h') hs es c' s' m u hev hst hout e3 e4 hm hnr H
    cases e with
    | normal => cases hex; exact key .ret .returning rfl (fun v h => by cases h) hQ
    | ret => cases hex; exact key .ret .returning rfl (fun v h => by cases h) hQ
    | panic av =>
      obtain ⟨x, rfl, hx⟩ := hex
      exact key (.pan av false) _ ⟨x, rfl, hx⟩ (fun v h => by cases h) hQ
    | exit id => exact hQ.elim
  · rintro e u' w' ⟨rfl, o, c', ⟨⟨r, rfl⟩, hQ⟩, hev, hst', rfl, x, rfl, hx⟩
    exact ⟨x, m, c', rfl, ⟨rfl, hQ⟩, hev, hst', rfl, hm.ev hs hev⟩
theorem Qej {P : Program} {f : FuncId} {fn : Func} {code : Code} {args : List AV} {h : AH} {Q : AH → Prop} (hf : P.funcs[f]? = some fn) (hb : fn.body = some code)
    (hcall : ∀ vals w, (callFunc f vals).run P w = .ok (.enter f vals) w) {N : Nat} (hN : fn.ntmps = N) {rs : List ResultVar} (hrs : fn.results.toList = rs) (hn : args.length ≤ N)
    (H : Yy P N code (QN P rs h fun o h' => (∃ r, o = .ret r) ∧ Q h') ⟨Qv args, h⟩) (m : AMode) : ZV P f args h m fun m' h' => m' = m ∧ Q h' :=
  QdH hf hb hcall hN hrs hn (XU (H.mono fun e s hq => by cases e <;> exact hq)) m
end Go.Proofs.YtehjodmnajgdgaaGreatDoor.Ab
set_option maxRecDepth 4000
namespace Go.Proofs.YtehjodmnajgdgaaGreatDoor.Ab
open Go.Proofs
def HB (h : AH) (i j : Nat) (u : Bool) (tx : ByteArray) : AH := hs2 h i (bw 71 i j u tx) j (.grow 5 1 tx.size)
theorem wTy : BTy 71 := .inr rfl
abbrev lpa : ByteArray := { data := #[40] }
abbrev rpa : ByteArray := { data := #[41] }
def encB (b : Bool) (x : ByteArray) : ByteArray := if b then lpa ++ x ++ rpa else x
theorem ZV.mono {P : Program} {f : FuncId} {args : List AV} {h : AH} {m : AMode} {Q Q' : AMode → AH → Prop} (H : ZV P f args h m Q) (hq : ∀ m' h', Q m' h' → Q' m' h') : ZV P f args h m Q' :=
  ⟨H.1, fun F n c vals u hF hro hs hh hvals hm => (H.2 F n c vals u hF hro hs hh hvals hm).mono fun e u' w' ⟨x, m', c', h1, h2, h3⟩ => ⟨x, m', c', h1, hq _ _ h2, h3⟩⟩
theorem Qfs {h : AH} {i j : Nat} (hi : i < h.length) (hj : j < h.length) (hij : i ≠ j) (u : Bool) (tx : ByteArray) (b : UInt8) (hs : tx.size < 140737488355328) (m : AMode) :
    ZV Tryz.prog 110 [.ptr i 0 0, .v (.int .u8 (b.toNat : Nat))] (HB h i j u tx) m fun m' h' => m' = m ∧ h' = HB h i j true (tx ++ { data := #[b] }) := by
  have f1 := fun x y => Zj h i x j y
  have f2 := fun x y => Zh (h := h) hi hij x y
  have f3 := fun x y z => Qdb (h := h) (i := i) (j := j) hij x y z
  have f5 := fun x y z => Qdj (h := h) (i := i) (j := j) x y z
  have f7 := fun x y => Qbh (h := h) (i := i) hj x y
  have c1 := QaH wTy hij u tx h hi hj
  have e1 : Xt (tx ++ { data := #[b] }) = Xt tx ++ [.v (.int .u8 (b.toNat : Nat))] := Qal tx _
  have e2 : (tx ++ ({ data := #[b] } : ByteArray)).size = tx.size + 1 := QU _ _
  have hs' : tx.size + 1 ≤ 140737488355328 := hs
  have hm : tx.size + 1 ≤ maxLen := by simp only [maxLen]; omega
  refine Qej Tryz.func110 rfl Tryz.call110 Tryz.ntmps110 (congrArg Array.toList Tryz.results110) (by simp) ?_ m
  rw [HB, HB, bw1, e1, e2]
  repeat (first | ((first | (with_reducible (first | refine Qa fun K E hK hE => ?_ | refine FunW.ret (FunW.call c1) ?_))); simp -implicitDefEqProofs only [Qd, Qb, Qf, OpW, QQ, aop, undef, AS.ev, Qc, QL, Xh, Qg, Qv, QmZ, Qni, AV.Qmr, Qo, QT, Xv, QB, Yz, Qnc, Qnd, Qs, QI, Qne, ↓reduceIte, Qm5, Qm6, Nat.reduceAdd, Nat.reduceLT, Nat.reduceLeDiff, Nat.reduceEqDiff, Qm4, Qnq, Ql, QG, QH, QW, QM, Q6, Zs, ZA, QmS, QmT, Qnm, QmU, Qm7, Qnb, Qnk, Qnj, Qnl, Qm3, Qna, Qm1, Qm9, Qm0, QmW, rng1, Xk, Nat.reducePow, zi5, ti67, ei67, ai67, QhH, QC, f2, f3, f5, f7, bw1, Yj, hm, hs', Nat.mul_one]) | (with_reducible refine Qm ?_) | ((with_reducible refine hK _ ?_); clear hK))
  simp -implicitDefEqProofs only [Qg, ↓reduceIte, QmY, QN, Qp, Qw, Qm2]
  exact .inr ⟨⟨_, rfl⟩, rfl⟩
theorem QaX {h : AH} {i j : Nat} (hi : i < h.length) (hj : j < h.length) (hij : i ≠ j) (need u : Bool) (tx body : ByteArray) {fv r : AV} (hs : tx.size + (encB need body).size ≤ 140737488355328)
    (hw : FunW Tryz.prog fv [] (HB h i j (u || need) (if need then tx ++ lpa else tx)) fun o h' => o = .ret r ∧ h' = HB h i j true ((if need then tx ++ lpa else tx) ++ body)) :
    Xf Tryz.prog 69 [.ptr i 0 0, .b need, fv] (HB h i j u tx) fun o h' => o = .ret (.tup []) ∧ h' = HB h i j true (tx ++ encB need body) := by
  have f2 := fun x y => Zh (h := h) hi hij x y
  have e0 : ∀ u tx, HB h i j u tx = hs2 h i (bw 71 i j u tx) j (.grow 5 1 tx.size) := fun _ _ => rfl
  have f0 : ∀ u tx, (HB h i j u tx)[i]? = some (bw 71 i j u tx) := fun u tx => f2 _ _
  have f1 : ∀ u tx, bw 71 i j u tx = .cells 71 2 [.agg [if u then .ptr i 0 0 else .v (.pointer none), .sl 1 (Xt tx) (some j)]] := fun _ _ => rfl
  cases need
  · rw [Bool.or_false, if_neg (by decide)] at hw
    refine Qe Tryz.func69 rfl Tryz.call69 Tryz.ntmps69 (congrArg Array.toList Tryz.results69) (by simp) ?_
    repeat (first | ((first | (with_reducible (first | refine Qa fun K E hK hE => ?_ | refine Qr fun K E hK hE => ?_ | refine FunW.ret hw ?_))); simp -implicitDefEqProofs only [Qd, Qb, Qf, OpW, QQ, aop, undef, AS.ev, Qc, Qg, Qv, QmZ, Qni, ↓reduceIte, Nat.reduceLT, Nat.reduceEqDiff, Qnb]) | (with_reducible (first | refine Qi fun K hK => ?_ | refine QD ?_ | refine Qj ?_)) | ((with_reducible refine hK _ ?_); clear hK) | (refine Qk rfl ?_; simp only [↓reduceIte, QmW]))
    simp -implicitDefEqProofs only [QmU, QmY, List.mapM_nil, Option.pure_def, QmU, QN, Qp, Qm2]
    exact .inr ⟨rfl, rfl⟩
  · rw [Bool.or_true, if_pos rfl] at hw
    have hsz : tx.size + body.size + 2 ≤ 140737488355328 := by
      rw [encB, if_pos rfl, QU, QU] at hs
      have : lpa.size = 1 := rfl
      have : rpa.size = 1 := rfl
      omega
    have c1 := QfB wTy hij u tx 40 (by omega) h hi hj
    rw [← e0, ← e0, show ((UInt8.toNat 40 : Nat) : Int) = 40 from rfl] at c1
    refine ZK Tryz.func69 rfl Tryz.call69 Tryz.ntmps69 (congrArg Array.toList Tryz.results69) (by simp) ?_
    refine Yi (Yi (XU ?_))
    repeat (first | (((with_reducible refine Qr fun K E hK hE => ?_)); simp -implicitDefEqProofs only [Qd, Qb, Qf, OpW, aop, undef, AS.ev, Qc, Qv, QmZ, Qni, Nat.reduceLT]) | ((with_reducible refine hK _ ?_); clear hK))
    show DefW _ _ _ _ _ _
    refine Qi7 rfl (Yi (XU ?_))
    repeat (first | ((first | (with_reducible (first | refine Qr fun K E hK hE => ?_ | refine FunW.ret (FunW.call c1) ?_))); simp -implicitDefEqProofs only [Qd, Qb, Qf, OpW, QQ, aop, undef, AS.ev, Qc, Qn, Qg, Qv, QmZ, ↓reduceIte, Nat.reduceLT, Nat.reduceEqDiff, Qnh, Ql, QmU, Qm7, Qnb, Zd, QC, f0, f1]) | ((with_reducible refine hK _ ?_); clear hK))
    show DefW _ _ _ _ _ _
    refine QbJ 3 rfl rfl rfl ?_
    simp -implicitDefEqProofs only [Qd, Qb, Qf, OpW, aop, undef, AS.ev, Qc, QL, Qn, Qg, Qv, QmZ, ↓reduceIte, Nat.reduceAdd, Nat.reduceLT, Nat.reduceEqDiff, Qnh, Qnr, Ql, QmU, Qm7, Qnb, Qm3, Qna, Qm1, Qm9, Zd, QC, f0, f1]
    refine ⟨_, _, _, rfl, ?_⟩
    show DefW _ _ _ _ _ _
    refine XU ?_
    repeat (first | ((first | (with_reducible (first | refine Qr fun K E hK hE => ?_ | refine FunW.ret hw ?_))); simp -implicitDefEqProofs only [Qd, Qb, Qf, OpW, QQ, aop, undef, AS.ev, Qc, Qg, Qv, QmZ, Qni, ↓reduceIte, Nat.reduceLT, Nat.reduceEqDiff, Qnb]) | ((with_reducible refine hK _ ?_); clear hK))
    simp only [Qfj, Qc6]
    refine ZV.mono (Qfs hi hj hij true ((tx ++ lpa) ++ body) 41 (by rw [QU, QU]; have : lpa.size = 1 := rfl; omega) .ret) ?_
    rintro m' h' ⟨rfl, rfl⟩
    simp only [AMode.settle, Qc6]
    simp -implicitDefEqProofs only [QmU, QmY, List.mapM_nil, Option.pure_def, QmU, QN, Qp, Qm2]
    exact .inr ⟨rfl, by rw [encB, if_pos rfl, ByteArray.append_assoc, ByteArray.append_assoc, ByteArray.append_assoc]⟩
end Go.Proofs.YtehjodmnajgdgaaGreatDoor.Ab
set_option maxRecDepth 4000
namespace Go.Proofs.YtehjodmnajgdgaaGreatDoor.Ab
open Go.Proofs
abbrev Qeo : ByteArray := { data := #[44, 32] }
def binT (o : Int) (n : ByteArray) (oa oc : Int) (x y : ByteArray) : ByteArray := (encB ((oa == 1) && (o == 2)) x ++ (({ data := #[32] } : ByteArray) ++ n ++ { data := #[32] })) ++ encB ((oc != 0) && ((oc == 1) || (o == 2))) y
def Qan : Bool → List ByteArray → ByteArray
  | _, [] => .empty
  | f, x :: r => (if f then x else Qeo ++ x) ++ Qan false r
def funT (n : ByteArray) (l : List ByteArray) : ByteArray := n ++ encB (decide (0 < l.length)) (Qan true l)
mutual
def T.txt : T → ByteArray
  | .mk k i n l => if (T.mk k i n l).oper ≠ 0 then (match l.map T.oper, txts l with
      | [oa, oc], [x, y] => binT (ofB n) n oa oc x y
      | _, _ => .empty) else
    if k = 0 then decZ i else if k = 1 then vOf (decN i.toNat) else funT n (txts l)
def txts : List T → List ByteArray
  | [] => []
  | t :: l => t.txt :: txts l
end
theorem QlI (l : List T) : txts l = l.map T.txt := by
  induction l with
  | nil => rfl
  | cons t l ih => rw [txts, ih]; rfl
mutual
def T.lex : T → Prop
  | .mk k i n l => (k = 0 → -9223372036854775807 ≤ i ∧ i ≤ 9223372036854775807) ∧ (k = 1 → 0 ≤ i ∧ i ≤ 1048576) ∧ l.length ≤ 1000000 ∧ n.size ≤ 1000000 ∧ lexL l
def lexL : List T → Prop
  | [] => True
  | t :: l => t.lex ∧ lexL l
end
section
variable {h : AH} {i j : Nat} (hi : i < h.length) (hj : j < h.length) (hij : i ≠ j)
theorem Qev (h : AH) (i j : Nat) (u : Bool) (tx : ByteArray) : (HB h i j u tx).length = h.length := Zj _ _ _ _ _
theorem Qdy (h : AH) (i j : Nat) (u : Bool) (tx : ByteArray) (L : AH) : (HB h i j u tx ++ L)[h.length]? = L[0]? := Qk2 _ _ _
theorem Qgu (h : AH) (i j : Nat) (u : Bool) (tx : ByteArray) (L : AH) (k : Nat) : (HB h i j u tx ++ L)[h.length + k]? = L[k]? := Qlw _ _ _ _
theorem QkL (h : AH) (i j : Nat) (u : Bool) (tx : ByteArray) (z : AB) (L : AH) : (HB h i j u tx ++ L).set h.length z = HB h i j u tx ++ L.set 0 z := Qki _ _ _ _
theorem QlM (h : AH) (i j : Nat) (u : Bool) (tx : ByteArray) (z : AB) (L : AH) (k : Nat) : (HB h i j u tx ++ L).set (h.length + k) z = HB h i j u tx ++ L.set k z := Qkq _ _ _ _ _
include hi hj in
theorem QhO (u : Bool) (tx : ByteArray) (L : AH) : HB (h ++ L) i j u tx = HB h i j u tx ++ L := Qg3 hi hj _ _ _
include hi hij in
theorem Qhg (u : Bool) (tx : ByteArray) : (HB h i j u tx)[i]? = some (.cells 71 2 [.agg [if u then .ptr i 0 0 else .v (.pointer none), .sl 1 (Xt tx) (some j)]]) := Zh hi hij _ _
include hi hij in
theorem Qdf (u : Bool) (tx : ByteArray) (L : AH) : (HB h i j u tx ++ L)[i]? = some (.cells 71 2 [.agg [if u then .ptr i 0 0 else .v (.pointer none), .sl 1 (Xt tx) (some j)]]) := Qjk hi hij _ _ _
theorem Qma {u u' : Bool} {tx tx' : ByteArray} (hij : i ≠ j) (H : X9 (HB h i j u tx)) : X9 (HB h i j u' tx') := by
  obtain ⟨k, ty, fr, e⟩ := H
  refine ⟨k, ty, fr, ?_⟩
  have hk := QS e
  rw [Qev] at hk
  by_cases h1 : i = k
  · subst h1; rw [HB, Zh hk hij] at e; cases e
  · by_cases h2 : j = k
    · subst h2; rw [HB, Qbh hk] at e; cases e
    · rw [HB, YJ _ _ h1 h2] at e ⊢; exact e
theorem Ya {u u' : Bool} {tx tx' : ByteArray} {L : AH} {r r' : AV} {Q : AV → AH → Prop} (hi : i < h.length) (hj : j < h.length) (hij : i ≠ j) (hf : Frz (HB h i j u' tx' ++ L) h.length r r') (hq : Q r' (HB h i j u' tx')) : Leaves (HB h i j u tx) (HB h i j u' tx' ++ L) r Q :=
  QeB hij (QkU hi hj) trivial hf hq
end
def Wri (f : FuncId) (args : List AV) (h : AH) (i j : Nat) (u : Bool) (tx add : ByteArray) : Prop :=
  Xf Tryz.prog f args (HB h i j u tx) fun o h' => o = .ret (.tup []) ∧ h' = HB h i j true (tx ++ add)
theorem wstr {h : AH} {i j : Nat} (hi : i < h.length) (hj : j < h.length) (hij : i ≠ j) (u : Bool) (tx s : ByteArray) (hs : tx.size + s.size ≤ 140737488355328) :
    Xf Tryz.prog 40 [.ptr i 0 0, .v (.string s)] (HB h i j u tx) fun o h' => o = .ret (.tup [.i s.size, .v .nilIface]) ∧ h' = HB h i j true (tx ++ s) :=
  QdN wTy hij u tx s hs h hi hj
theorem YX {p : Prop} (h : 2 = 3) : p := by cases h
theorem QiM {G G' : AH} {p q i : Nat} {t a : T} {r : AV} (hp : G[p]? = some (.cells 58 1 [.ptr i 0 0])) (hq : G[q]? = some (.cells 24 4 [t.av])) (ha : t.args[0]? = some a)
    (H : Xf Tryz.prog 35 [.ptr i 0 0, a.av] G fun o h' => o = .ret r ∧ h' = G') :
    Xf Tryz.prog 70 [.ptr p 0 0, .ptr q 0 0] G fun o h' => o = .ret (.tup []) ∧ h' = G' := by
  have e1 : t.av = .agg [.i t.kind, .i t.int, .v (.string t.name), .sl 4 (avs t.args) none] := by cases t; rfl
  have hlt : 0 < t.args.length := QS ha
  have hz : (0 : Int) < t.args.length := by omega
  have hg := ZU hlt
  have ea : t.args[0] = a := by rw [List.getElem?_eq_getElem hlt] at ha; injection ha
  rw [ea] at hg
  rw [e1] at hq
  refine Qe Tryz.func70 rfl Tryz.call70 Tryz.ntmps70 (congrArg Array.toList Tryz.results70) (by simp) ?_
  repeat (first | ((first | (with_reducible refine XB (FunW.call H) YX ?_) | (refine XO (id := 0) [(0, 0), (1, 0), (2, 0), (3, 0), (4, 0), (5, 2)] mixed (by kernel_rfl) fun K hK => ?_)); simp -implicitDefEqProofs only [Q1, QX, Q8, Qf, aop, undef, AS.ev, Qc, Qn, Qg, Qv, QmZ, Qni, Qo, Xj, ↓reduceIte, Qm5, Qm6, Nat.reduceAdd, Nat.reduceLT, Nat.reduceLeDiff, Nat.reduceEqDiff, Qm4, Qnq, Ql, QG, QH, Xg, QmS, QmT, QmU, QmV, Qm7, Qnb, Int.toNat_zero, T.Qmp, T.Qmq, QK, ti22, ei22, ti24, Xx, ti58, QnF, hp, hq, hz, hg, QK, T.Qmq, T.Qmp]) | ((with_reducible refine hK _ ?_); clear hK))
  simp -implicitDefEqProofs only [QmU, QmY, List.mapM_nil, Option.pure_def, QmU, QN, Qp, Qm2]
  exact .inr ⟨rfl, rfl⟩
theorem Qjq {G G' : AH} {p q i : Nat} {t a : T} {r : AV} (hp : G[p]? = some (.cells 58 1 [.ptr i 0 0])) (hq : G[q]? = some (.cells 24 4 [t.av])) (ha : t.args[1]? = some a)
    (H : Xf Tryz.prog 35 [.ptr i 0 0, a.av] G fun o h' => o = .ret r ∧ h' = G') :
    Xf Tryz.prog 71 [.ptr p 0 0, .ptr q 0 0] G fun o h' => o = .ret (.tup []) ∧ h' = G' := by
  have e1 : t.av = .agg [.i t.kind, .i t.int, .v (.string t.name), .sl 4 (avs t.args) none] := by cases t; rfl
  have hlt : 1 < t.args.length := QS ha
  have hz : (1 : Int) < t.args.length := by omega
  have z1 : (0 : Int) ≤ 1 := by decide
  have hg := ZU hlt
  have ea : t.args[1] = a := by rw [List.getElem?_eq_getElem hlt] at ha; injection ha
  rw [ea] at hg
  rw [e1] at hq
  refine Qe Tryz.func71 rfl Tryz.call71 Tryz.ntmps71 (congrArg Array.toList Tryz.results71) (by simp) ?_
  repeat (first | ((first | (with_reducible refine XB (FunW.call H) YX ?_) | (refine XO (id := 0) [(0, 0), (1, 0), (2, 0), (3, 0), (4, 0), (5, 2)] mixed (by kernel_rfl) fun K hK => ?_)); simp -implicitDefEqProofs only [Q1, QX, Q8, Qf, aop, undef, AS.ev, Qc, Qn, Qg, Qv, QmZ, Qni, Qo, Xj, ↓reduceIte, Qm5, Qm6, Nat.reduceAdd, Nat.reduceLT, Nat.reduceLeDiff, Nat.reduceEqDiff, Qm4, Qnq, Ql, QG, QH, Xg, QmS, QmT, QmU, QmV, Qm7, Qnb, Int.toNat_one, T.Qmp, T.Qmq, QK, ti22, ei22, ti24, Xx, ti58, hp, hq, hz, z1, hg, QK, T.Qmq, T.Qmp]) | ((with_reducible refine hK _ ?_); clear hK))
  simp -implicitDefEqProofs only [QmU, QmY, List.mapM_nil, Option.pure_def, QmU, QN, Qp, Qm2]
  exact .inr ⟨rfl, rfl⟩
theorem QiA (f : Bool) (l : List ByteArray) : ∀ x r, l = x :: r → (Qan f l).size = (if f then 0 else 2) + x.size + (Qan false r).size := by
  rintro x r rfl
  rw [Qan, QU]
  cases f
  · simp only [QmW, if_false, QU]; have : Qeo.size = 2 := rfl; omega
  · simp
theorem Qgm {h : AH} {i j : Nat} (hi : i < h.length) (hj : j < h.length) (hij : i ≠ j) (l : List T) {p q : Nat} (hp : p < h.length) (hq : q < h.length) (hpi : i ≠ p) (hpj : j ≠ p) (hqi : i ≠ q) (hqj : j ≠ q)
    (gp : h[p]? = some (.cells 58 1 [.ptr i 0 0])) (gq : h[q]? = some (.cells 22 1 [.sl 4 (avs l) none])) (hl : l.length ≤ 1000000)
    (ih : ∀ t ∈ l, ∀ (h : AH), i < h.length → j < h.length → X9 (HB h i j true (.empty)) → ∀ tx : ByteArray, tx.size + t.txt.size ≤ 140737488355328 → Wri 35 [.ptr i 0 0, t.av] h i j true tx t.txt)
    (hG : X9 (HB h i j true (.empty))) (tx : ByteArray) (hs : tx.size + (Qan true (txts l)).size ≤ 140737488355328) :
    Wri 79 [.ptr q 0 0, .ptr p 0 0] h i j true tx (Qan true (txts l)) := by
  have k0 : ∀ u tx L, (HB h i j u tx ++ L)[p]? = some (.cells 58 1 [.ptr i 0 0]) := fun u tx L => by
    rw [List.getElem?_append_left (by rw [Qev]; exact hp), HB, YJ _ _ hpi hpj, gp]
  have k1 : ∀ u tx, (HB h i j u tx)[q]? = some (.cells 22 1 [.sl 4 (avs l) none]) := fun u tx => by
    rw [HB, YJ _ _ hqi hqj, gq]
  have f1 := Qev h i j
  have f2 := fun u tx L => Qdy h i j u tx L
  have f3 := fun u tx L => Qgu h i j u tx L
  have f4 := fun u tx z L => QkL h i j u tx z L
  have f5 := fun u tx z L => QlM h i j u tx z L
  have f6 := fun u tx L => Qdf (h := h) hi hij u tx L
  refine Qe Tryz.func79 rfl Tryz.call79 Tryz.ntmps79 (congrArg Array.toList Tryz.results79) (by simp) ?_
  repeat (first | (((with_reducible refine Qa fun K E hK hE => ?_)); simp -implicitDefEqProofs only [Qd, Qb, Qf, OpW, aop, undef, AS.ev, Qc, Qn, Qg, Qv, QmZ, Xv, ↓reduceIte, Nat.reduceLT, QG, QH, aLen, QmS, QmU, goInt, QK, ti22, un22, k1, QK]) | (with_reducible refine Qq ?_) | ((with_reducible refine hK _ ?_); clear hK))
  obtain ⟨I, hI⟩ : ∃ I : Nat → AS → Prop, I = fun m' s => ∃ (k : Nat) (cur : ByteArray), m' = l.length - k ∧ k ≤ l.length ∧ cur ++ Qan (decide (k = 0)) (txts (l.drop k)) = tx ++ Qan true (txts l) ∧ s.tm 0 = .ptr q 0 0 ∧ s.tm 1 = .ptr p 0 0 ∧ s.tm 4 = .sl 4 (avs l) none ∧ s.tm 5 = .i l.length ∧ s.tm 6 = .i k ∧ (∃ L, s.h = HB h i j true cur ++ L) := ⟨_, rfl⟩; refine XJ I ?_ (m := l.length) ?_
  · intro m' s hs; rw [hI] at hs; obtain ⟨tm, hp⟩ := s; dsimp only at hs; obtain ⟨k, cur, rfl, hk, he, t0, t1, t4, t5, t6, L, rfl⟩ := hs
    by_cases hlt : k < l.length
    · have hg := ZU hlt
      have z1 : (k : Int) < l.length := by omega
      have hsz : cur.size + (Qan (decide (k = 0)) (txts (l.drop k))).size = tx.size + (Qan true (txts l)).size := by rw [← QU, he, QU]
      have hd : txts (l.drop k) = (l[k]).txt :: txts (l.drop (k + 1)) := by rw [List.drop_eq_getElem_cons hlt]; rfl
      have hcm : Qeo.size = 2 := rfl
      rw [hd, Qan, QU] at hsz
      rw [hd, Qan] at he
      have gapp := fun (u : Bool) (tx : ByteArray) (L : AH) => QhO (h := h) (i := i) (j := j) hi hj u tx L
      have glen : ∀ L : AH, i < (h ++ L).length ∧ j < (h ++ L).length := fun L => by rw [List.length_append]; omega
      by_cases hk0 : k = 0
      · rw [decide_eq_true hk0, if_pos rfl] at hsz he
        have z2 : ¬ (k : Int) > 0 := by omega
        have c := ih l[k] (List.getElem_mem hlt) (h ++ (L ++ [AB.cells 24 4 [l[k].av]])) (glen _).1 (glen _).2 (by rw [gapp]; exact HasG.app hG _) cur (by omega)
        rw [Wri, gapp, gapp] at c
        repeat (first | ((first | (with_reducible (first | refine Qa fun K E hK hE => ?_ | refine Qr fun K E hK hE => ?_ | refine FunW.ret (FunW.call c) ?_))); simp -implicitDefEqProofs only [Qd, Qb, Qf, OpW, QQ, aop, undef, AS.ev, Qc, QL, Qn, Qg, AV.Qmr, Qo, Xj, QB, Qnc, Qnd, Qs, Qu, QE, QI, Qne, ↓reduceIte, Qm5, Qm6, Nat.reduceAdd, Nat.reduceLT, Nat.reduceEqDiff, Qm4, Qnq, QG, QH, QW, QM, Xg, aBin, Q0, Ym, hlen, happ, QmS, Qnm, QmU, Qm7, Qnb, Q3, Xr, XK, Qno, Qnp, Qnv, Qnu, T.Qmp, T.Qmq, QK, ei22, ti24, zi24, ti58, t1, t4, t5, t6, z1, z2, hg, k0, f1, f3, f5, T.Qmq, T.Qmp]) | (with_reducible (first | refine Qi fun K hK => ?_ | refine Qq ?_ | refine QD ?_ | refine Qj ?_ | refine QF ?_)) | ((with_reducible refine hK _ ?_); clear hK) | (refine Qk rfl ?_; simp only [↓reduceIte, QmW]))
        refine Yo.mk (m' := l.length - (k + 1)) (by omega) ?_
        rw [hI]
        refine ⟨k + 1, cur ++ (l[k]).txt, rfl, hlt, ?_, t0, t1, t4, t5, ?_, _, rfl⟩
        · rw [decide_eq_false (Nat.succ_ne_zero k), ByteArray.append_assoc]; exact he
        · simp only [upd, ↓reduceIte]
          rw [Zi (by omega)]
      · rw [decide_eq_false hk0, if_neg (by decide), QU] at hsz
        rw [decide_eq_false hk0, if_neg (by decide)] at he
        have z2 : (k : Int) > 0 := by omega
        have c1 := wstr (h := h ++ (L ++ [AB.cells 24 4 [l[k].av]])) (glen _).1 (glen _).2 hij true cur Qeo (by omega)
        rw [gapp, gapp] at c1
        have c := ih l[k] (List.getElem_mem hlt) (h ++ (L ++ [AB.cells 24 4 [l[k].av]])) (glen _).1 (glen _).2 (by rw [gapp]; exact HasG.app hG _) (cur ++ Qeo) (by rw [QU]; omega)
        rw [Wri, gapp, gapp] at c
        repeat (first | ((first | (with_reducible (first | refine Qa fun K E hK hE => ?_ | refine Qr fun K E hK hE => ?_ | refine FunW.ret (FunW.call c) ?_ | refine FunW.ret (FunW.call c1) ?_))); simp -implicitDefEqProofs only [Qd, Qb, Qf, OpW, QQ, aop, undef, AS.ev, Qc, QL, Qn, QO, Qg, AV.Qmr, Qo, Xj, QB, Qnc, Qnd, Qs, Qu, QE, QI, Qne, ↓reduceIte, Qm5, Qm6, Nat.reduceAdd, Nat.reduceLT, Nat.reduceEqDiff, Qm4, Qnh, Qnq, Ql, QG, QH, QW, QM, Xg, aBin, Q0, Ym, hlen, happ, QmS, Qnm, QmU, Qm7, Qnb, Q3, Xr, XK, Qno, Qnv, Qnu, T.Qmp, T.Qmq, QK, ei22, ti24, zi24, ti58, Zd, QC, t1, t4, t5, t6, z1, z2, hg, k0, f1, f3, f5, f6, T.Qmq, T.Qmp]) | (with_reducible (first | refine Qi fun K hK => ?_ | refine Qq ?_ | refine QD ?_ | refine Qj ?_ | refine QF ?_)) | ((with_reducible refine hK _ ?_); clear hK) | (refine Qk rfl ?_; simp only [↓reduceIte]))
        refine Yo.mk (m' := l.length - (k + 1)) (by omega) ?_
        rw [hI]
        refine ⟨k + 1, (cur ++ Qeo) ++ (l[k]).txt, rfl, hlt, ?_, t0, t1, t4, t5, ?_, _, rfl⟩
        · rw [decide_eq_false (Nat.succ_ne_zero k)]; simp only [ByteArray.append_assoc] at he ⊢; exact he
        · simp only [upd, ↓reduceIte]
          rw [Zi (by omega)]
    · have hkn : k = l.length := by omega
      subst hkn
      have z1 : ¬ ((l.length : Nat) : Int) < l.length := by omega
      rw [List.drop_length, txts, Qan, ByteArray.append_empty] at he
      repeat (first | (((with_reducible refine Qa fun K E hK hE => ?_)); simp -implicitDefEqProofs only [Qd, Qb, Qf, OpW, aop, AS.ev, Qc, Nat.reduceLT, aBin, QmU, Q3, Qnp, t5, t6, z1]) | (with_reducible (first | refine Qi fun K hK => ?_ | refine Xb ?_ | refine Q5 ?_ | refine Q4 ?_)) | ((with_reducible refine hK _ ?_); clear hK) | (refine Qk rfl ?_; simp only [↓reduceIte, QmW]))
      simp -implicitDefEqProofs only [QmU, QmY, List.mapM_nil, Option.pure_def, QmU, QN, Qp, Qm2]
      exact Ya hi hj hij (.keep (.tup _ fun x hx => by cases hx)) ⟨rfl, by rw [he]⟩
  · rw [hI]
    exact ⟨0, tx, rfl, by omega, rfl, rfl, rfl, rfl, rfl, rfl, [], (List.append_nil _).symm⟩
theorem QdL (l : List T) : (txts l).length = l.length := by rw [QlI, List.length_map]
theorem Z3 {h : AH} {i j : Nat} (hi : i < h.length) (hj : j < h.length) (hij : i ≠ j) (l : List T) (hl : l.length ≤ 1000000) (s : ByteArray)
    (ih : ∀ t ∈ l, ∀ (h : AH), i < h.length → j < h.length → X9 (HB h i j true (.empty)) → ∀ tx : ByteArray, tx.size + t.txt.size ≤ 140737488355328 → Wri 35 [.ptr i 0 0, t.av] h i j true tx t.txt)
    (hG : X9 (HB h i j true (.empty))) (u : Bool) (tx : ByteArray) (hs : tx.size + (funT s (txts l)).size ≤ 140737488355328) :
    Wri 39 [.ptr i 0 0, .v (.string s), .sl 4 (avs l) none] h i j u tx (funT s (txts l)) := by
  obtain ⟨L, hL⟩ : ∃ L : AH, L = [AB.cells 58 1 [.ptr i 0 0], AB.cells 22 1 [.sl 4 (avs l) none]] := ⟨_, rfl⟩
  have hlL : (h ++ L).length = h.length + 2 := by rw [hL]; simp
  have hi' : i < (h ++ L).length := by omega
  have hj' : j < (h ++ L).length := by omega
  have gapp := fun (u : Bool) (tx : ByteArray) (L : AH) => QhO (h := h) (i := i) (j := j) hi hj u tx L
  have hsz : (funT s (txts l)).size = s.size + (encB (decide (0 < (txts l).length)) (Qan true (txts l))).size := by rw [funT, QU]
  rw [QdL] at hsz
  obtain ⟨body, hbody⟩ : ∃ b, b = Qan true (txts l) := ⟨_, rfl⟩
  rw [← hbody] at hsz
  have hbs : body.size ≤ (encB (decide (0 < l.length)) body).size := by
    rw [encB]; split
    · rw [QU, QU]; omega
    · exact Nat.le_refl _
  have c1 := wstr (h := h ++ L) hi' hj' hij u tx s (by omega)
  rw [gapp, gapp, hL] at c1
  have gp : (h ++ L)[h.length]? = some (.cells 58 1 [.ptr i 0 0]) := by rw [hL]; simp
  have gq : (h ++ L)[h.length + 1]? = some (.cells 22 1 [.sl 4 (avs l) none]) := by rw [hL]; simp
  have hn : decide ((l.length : Int) > 0) = decide (0 < l.length) := by rw [Bool.eq_iff_iff]; simp
  have hx : ((if decide (0 < l.length) = true then tx ++ s ++ lpa else tx ++ s)).size + body.size ≤ 140737488355328 := by
    by_cases h0 : 0 < l.length
    · rw [if_pos (decide_eq_true h0), QU, QU]
      rw [encB, if_pos (decide_eq_true h0), QU, QU] at hsz
      omega
    · rw [if_neg (by simpa using h0), QU]
      omega
  have hw := Qgm (h := h ++ L) hi' hj' hij l (p := h.length) (q := h.length + 1) (by omega) (by omega) (by omega) (by omega) (by omega) (by omega) gp gq hl ih (by rw [gapp]; exact HasG.app hG _)
    (if decide (0 < l.length) = true then tx ++ s ++ lpa else tx ++ s) (by rw [← hbody]; exact hx)
  rw [← hbody] at hw
  have c2 := QaX (h := h ++ L) hi' hj' hij (decide (0 < l.length)) true (tx ++ s) body (fv := .fn (.func 79) [] [.ptr (h.length + 1) 0 0, .ptr h.length 0 0]) (by rw [QU]; omega) (FunW.fn hw)
  rw [gapp, gapp, hL] at c2
  have f2 := fun u tx L => Qdy h i j u tx L
  have f3 := fun u tx L => Qgu h i j u tx L
  have f6 := fun u tx L => Qdf (h := h) hi hij u tx L
  have f1 := Qev h i j
  refine Qe Tryz.func39 rfl Tryz.call39 Tryz.ntmps39 (congrArg Array.toList Tryz.results39) (by simp) ?_
  repeat (first | ((first | (with_reducible (first | refine Qa fun K E hK hE => ?_ | refine Qr fun K E hK hE => ?_ | refine FunW.ret (FunW.call c1) ?_ | refine FunW.ret (FunW.call c2) ?_))); simp -implicitDefEqProofs only [Qd, Qb, Qf, OpW, QQ, aop, undef, AS.ev, Qc, Qn, Qg, Qv, QmZ, Qni, AV.Qmr, Xv, Xj, Qnc, Qnd, QI, Xq, Qne, ↓reduceIte, Qm5, Qm6, Nat.reduceLT, Nat.reduceEqDiff, Qm4, Qnh, Ql, QG, QH, aBin, aLen, hlen, happ, QmS, QmT, QmU, Qm7, Qnb, Qnk, Qnj, Xr, goInt, QK, ti22, un22, ti58, Zd, QC, f1, f2, f3, f6, QK, hn]) | ((with_reducible refine hK _ ?_); clear hK))
  simp -implicitDefEqProofs only [QmU, QmY, List.mapM_nil, Option.pure_def, QmU, QN, Qp, Qm2]
  exact Ya hi hj hij (.keep (.tup _ fun x hx => by cases hx)) ⟨rfl, by rw [funT, QdL, ← hbody, ByteArray.append_assoc]⟩
end Go.Proofs.YtehjodmnajgdgaaGreatDoor.Ab
set_option maxRecDepth 4000
namespace Go.Proofs.YtehjodmnajgdgaaGreatDoor.Ab
open Go.Proofs
def TIh (i j : Nat) (t : T) : Prop := ∀ (h : AH), i < h.length → j < h.length → X9 (HB h i j true (.empty)) → ∀ (u : Bool) (tx : ByteArray), tx.size + t.txt.size ≤ 140737488355328 → Wri 35 [.ptr i 0 0, t.av] h i j u tx t.txt
theorem QjK (b : Bool) (x tx : ByteArray) : (if b = true then tx ++ lpa else tx).size + x.size ≤ tx.size + (encB b x).size := by
  rw [encB]; split
  · rw [QU, QU, QU]; omega
  · exact Nat.le_refl _
theorem QkO {h : AH} {i j : Nat} (hi : i < h.length) (hj : j < h.length) (hij : i ≠ j) (n : ByteArray) (x : Int) (a c : T) (hn : n.size ≤ 1000000) (ho : ofB n ≠ 0) (hla : a.args.length ≤ 1000000) (hlc : c.args.length ≤ 1000000) (iha : TIh i j a) (ihc : TIh i j c)
    (hG : X9 (HB h i j true (.empty))) (u : Bool) (tx : ByteArray) (hs : tx.size + (binT (ofB n) n a.oper c.oper a.txt c.txt).size ≤ 140737488355328) :
    Wri 35 [.ptr i 0 0, (T.mk 2 x n [a, c]).av] h i j u tx (binT (ofB n) n a.oper c.oper a.txt c.txt) := by
  obtain ⟨t, ht⟩ : ∃ t, t = T.mk 2 x n [a, c] := ⟨_, rfl⟩
  have eo : t.oper = ofB n := by rw [ht]; rfl
  have eav : t.av = .agg [.i 2, .i x, .v (.string n), .sl 4 (avs [a, c]) none] := by rw [ht]; rfl
  obtain ⟨L, hL⟩ : ∃ L : AH, L = [AB.cells 58 1 [.ptr i 0 0], AB.cells 24 4 [t.av]] := ⟨_, rfl⟩
  have hlL : (h ++ L).length = h.length + 2 := by rw [hL]; simp
  have hi' : i < (h ++ L).length := by omega
  have hj' : j < (h ++ L).length := by omega
  have gapp := fun (u : Bool) (tx : ByteArray) (L : AH) => QhO (h := h) (i := i) (j := j) hi hj u tx L
  have hG' : X9 (HB (h ++ L) i j true (.empty)) := by rw [gapp]; exact HasG.app hG _
  have gp : ∀ u tx, (HB (h ++ L) i j u tx)[h.length]? = some (.cells 58 1 [.ptr i 0 0]) := fun u tx => by rw [gapp, Qdy, hL]; rfl
  have gq : ∀ u tx, (HB (h ++ L) i j u tx)[h.length + 1]? = some (.cells 24 4 [t.av]) := fun u tx => by rw [gapp, Qgu, hL]; rfl
  have ct := Qbi t (by rw [ht]; simp [maxLen, T.args])
  rw [eo, eav] at ct
  have ca := Qbi a (by simp only [maxLen]; omega)
  have cc := Qbi c (by simp only [maxLen]; omega)
  obtain ⟨o, eoo⟩ : ∃ o, o = ofB n := ⟨_, rfl⟩
  obtain ⟨oa, eoa⟩ : ∃ o, o = a.oper := ⟨_, rfl⟩
  obtain ⟨oc, eoc⟩ : ∃ o, o = c.oper := ⟨_, rfl⟩
  rw [← eoo] at ct
  rw [← eoa] at ca
  rw [← eoc] at cc
  rw [← eoo, ← eoa, ← eoc] at hs ⊢
  rw [← eoo] at ho
  have hm := hs
  simp only [binT, QU] at hm
  have hsp : ({ data := #[32] } : ByteArray).size = 1 := rfl
  -- the first operand
  have hw1 := fun (u : Bool) (q : Bool) (tx' : ByteArray) (hq : tx'.size + a.txt.size ≤ 140737488355328) => QiM (p := h.length) (q := h.length + 1) (t := t) (a := a) (gp u tx') (gq u tx') (by rw [ht]; rfl) (iha (h ++ L) hi' hj' hG' u tx' hq)
  have hw2 := fun (u : Bool) (q : Bool) (tx' : ByteArray) (hq : tx'.size + c.txt.size ≤ 140737488355328) => Qjq (p := h.length) (q := h.length + 1) (t := t) (a := c) (gp u tx') (gq u tx') (by rw [ht]; rfl) (ihc (h ++ L) hi' hj' hG' u tx' hq)
  have e1 := QjK ((oa == 1) && (o == 2)) a.txt tx
  have c1 := QaX (h := h ++ L) hi' hj' hij ((oa == 1) && (o == 2)) u tx a.txt (fv := .fn (.func 70) [] [.ptr h.length 0 0, .ptr (h.length + 1) 0 0]) (by omega) (FunW.fn (hw1 _ true _ (by omega)))
  obtain ⟨tx1, etx1⟩ : ∃ z, z = tx ++ encB ((oa == 1) && (o == 2)) a.txt := ⟨_, rfl⟩
  rw [← etx1] at c1
  have hsz1 : tx1.size = tx.size + (encB ((oa == 1) && (o == 2)) a.txt).size := by rw [etx1, QU]
  have c2 := wstr (h := h ++ L) hi' hj' hij true tx1 (({ data := #[32] } : ByteArray) ++ n ++ { data := #[32] }) (by simp only [QU]; omega)
  obtain ⟨tx2, etx2⟩ : ∃ z, z = tx1 ++ (({ data := #[32] } : ByteArray) ++ n ++ { data := #[32] }) := ⟨_, rfl⟩
  rw [← etx2] at c2
  have hsz2 : tx2.size = tx1.size + (1 + n.size + 1) := by rw [etx2]; simp only [QU, hsp]
  have e3 := QjK ((oc != 0) && ((oc == 1) || (o == 2))) c.txt tx2
  have c3 := QaX (h := h ++ L) hi' hj' hij ((oc != 0) && ((oc == 1) || (o == 2))) true tx2 c.txt (fv := .fn (.func 71) [] [.ptr h.length 0 0, .ptr (h.length + 1) 0 0]) (by omega) (FunW.fn (hw2 _ true _ (by omega)))
  have efin : tx2 ++ encB ((oc != 0) && ((oc == 1) || (o == 2))) c.txt = tx ++ binT o n oa oc a.txt c.txt := by
    rw [etx2, etx1, binT]; simp only [ByteArray.append_assoc]
  rw [efin] at c3
  rw [gapp, gapp, hL, eav] at c1 c2 c3
  have f1 := Qev h i j
  have f2 := fun u tx L => Qdy h i j u tx L
  have f3 := fun u tx L => Qgu h i j u tx L
  have f6 := fun u tx L => Qdf (h := h) hi hij u tx L
  have hsa1 := fun xo yo => QbL Tryz.prog 9 xo yo ({ data := #[32] } : ByteArray) n (by omega)
  have hsa2 := fun xo yo => QbL Tryz.prog 9 xo yo (({ data := #[32] } : ByteArray) ++ n) { data := #[32] } (by rw [QU]; omega)
  have ga : (avs [a, c])[0]? = some a.av := rfl
  have gc : (avs [a, c])[1]? = some c.av := rfl
  have hav : (T.mk 2 x n [a, c]).av = .agg [.i 2, .i x, .v (.string n), .sl 4 (avs [a, c]) none] := rfl
  have ho' : (o != 0) = true := by simpa using ho
  rw [hav]
  have hll : (avs [a, c]).length = 2 := rfl
  have z0 : ((0 : Int) ≤ 1) = True := by simp
  have z1 : ((0 : Int) < ((2 : Nat) : Int)) = True := by simp
  have z2 : ((1 : Int) < ((2 : Nat) : Int)) = True := by simp
  obtain ⟨q1, eq1⟩ : ∃ z, z = ((oa == 1) && (o == 2)) := ⟨_, rfl⟩
  obtain ⟨q3, eq3⟩ : ∃ z, z = ((oc != 0) && ((oc == 1) || (o == 2))) := ⟨_, rfl⟩
  rw [← eq1] at c1
  rw [← eq3] at c3
  cases b1 : (oa == 1)
  · cases b2 : (o == 2)
    · cases b3 : (oc != 0)
      · have hq1 : q1 = false := by rw [eq1, b1, b2]; rfl
        have hq3 : q3 = false := by rw [eq3, b2, b3]; rfl
        rw [hq1] at c1
        rw [hq3] at c3
        refine Qe Tryz.func35 rfl Tryz.call35 Tryz.ntmps35 (congrArg Array.toList Tryz.results35) (by simp) ?_
        repeat (first | ((first | (with_reducible (first | refine Qa fun K E hK hE => ?_ | refine Qr fun K E hK hE => ?_ | refine Qz ct ?_ | refine QZ ca ?_ | refine QZ cc ?_ | refine FunW.ret (FunW.call c1) ?_ | refine FunW.ret (FunW.call c3) ?_ | refine XB (FunW.call c2) YX ?_)) | (refine QP (id := 4) [(0, 0), (1, 0), (2, 0), (3, 0), (4, 1), (5, 0), (6, 0), (7, 0), (8, 0), (9, 1), (10, 0), (11, 0)] mixed (by kernel_rfl) fun K hK => ?_) | (refine QP (id := 6) [(0, 0), (1, 0), (2, 0), (3, 0), (4, 0), (5, 0), (6, 0), (7, 2)] mixed (by kernel_rfl) fun K hK => ?_)); simp -implicitDefEqProofs only [Q1, QX, Q8, Qd, Qb, Qf, OpW, QQ, aop, undef, AS.ev, Qc, Qn, Qt, QO, Qg, Qv, QmZ, Qni, AV.Qmr, Qo, Xj, QB, Qnc, Qnd, Qs, Qu, QI, Xq, Qne, ↓reduceIte, Qm5, Qm6, Nat.reduceAdd, Nat.reduceLT, Nat.reduceLeDiff, Nat.reduceEqDiff, Qm4, Qnh, Qnq, Ql, QG, QH, Xg, aBin, hlen, happ, QmS, QmT, QmU, QmX, QmV, Qm7, Qnb, Qnk, Qnj, QR, Q2, Int.toNat_zero, Int.toNat_one, QmW, beq_true, T.Qmp, T.Qmq, ti9, ti22, ei22, ti24, XA, Xx, ti58, Zd, QnF, QC, f1, f2, f3, f6, ho', hll, ga, gc, z0, z1, z2, b1, b3, hsa1, hsa2, T.Qmq, T.Qmp]) | (with_reducible (first | refine Qq ?_ | refine QF ?_)) | ((with_reducible refine hK _ ?_); clear hK) | (refine Qk rfl ?_; simp only [↓reduceIte]))
        simp -implicitDefEqProofs only [QmU, QmY, List.mapM_nil, Option.pure_def, QmU, QN, Qp, Qm2]
        exact Ya hi hj hij (.keep (.tup _ fun x hx => by cases hx)) ⟨rfl, rfl⟩
      · cases b4 : (oc == 1)
        · have hq1 : q1 = false := by rw [eq1, b1, b2]; rfl
          have hq3 : q3 = false := by rw [eq3, b2, b3, b4]; rfl
          rw [hq1] at c1
          rw [hq3] at c3
          refine Qe Tryz.func35 rfl Tryz.call35 Tryz.ntmps35 (congrArg Array.toList Tryz.results35) (by simp) ?_
          repeat (first | ((first | (with_reducible (first | refine Qa fun K E hK hE => ?_ | refine Qr fun K E hK hE => ?_ | refine Qz ct ?_ | refine QZ ca ?_ | refine QZ cc ?_ | refine FunW.ret (FunW.call c1) ?_ | refine FunW.ret (FunW.call c3) ?_ | refine XB (FunW.call c2) YX ?_)) | (refine QP (id := 4) [(0, 0), (1, 0), (2, 0), (3, 0), (4, 1), (5, 0), (6, 0), (7, 0), (8, 0), (9, 1), (10, 0), (11, 0)] mixed (by kernel_rfl) fun K hK => ?_) | (refine QP (id := 6) [(0, 0), (1, 0), (2, 0), (3, 0), (4, 0), (5, 0), (6, 0), (7, 2)] mixed (by kernel_rfl) fun K hK => ?_)); simp -implicitDefEqProofs only [Q1, QX, Q8, Qd, Qb, Qf, OpW, QQ, aop, undef, AS.ev, Qc, Qn, Qt, QO, Qg, Qv, QmZ, Qni, AV.Qmr, Qo, Xj, QB, Qnc, Qnd, Qs, Qu, QI, Xq, Qne, ↓reduceIte, Qm5, Qm6, Nat.reduceAdd, Nat.reduceLT, Nat.reduceLeDiff, Nat.reduceEqDiff, Qm4, Qnh, Qnq, Ql, QG, QH, Xg, aBin, hlen, happ, QmS, QmT, QmU, QmX, QmV, Qm7, Qnb, Qnk, Qnj, QR, Q2, Qm0, Int.toNat_zero, Int.toNat_one, QmW, beq_true, T.Qmp, T.Qmq, ti9, ti22, ei22, ti24, XA, Xx, ti58, Zd, QnF, QC, f1, f2, f3, f6, ho', hll, ga, gc, z0, z1, z2, b1, b2, b3, b4, hsa1, hsa2, T.Qmq, T.Qmp]) | (with_reducible (first | refine Qq ?_ | refine QF ?_)) | ((with_reducible refine hK _ ?_); clear hK) | (refine Qk rfl ?_; simp only [↓reduceIte]))
          simp -implicitDefEqProofs only [QmU, QmY, List.mapM_nil, Option.pure_def, QmU, QN, Qp, Qm2]
          exact Ya hi hj hij (.keep (.tup _ fun x hx => by cases hx)) ⟨rfl, rfl⟩
        · have hq1 : q1 = false := by rw [eq1, b1, b2]; rfl
          have hq3 : q3 = true := by rw [eq3, b2, b3, b4]; rfl
          rw [hq1] at c1
          rw [hq3] at c3
          refine Qe Tryz.func35 rfl Tryz.call35 Tryz.ntmps35 (congrArg Array.toList Tryz.results35) (by simp) ?_
          repeat (first | ((first | (with_reducible (first | refine Qa fun K E hK hE => ?_ | refine Qr fun K E hK hE => ?_ | refine Qz ct ?_ | refine QZ ca ?_ | refine QZ cc ?_ | refine FunW.ret (FunW.call c1) ?_ | refine FunW.ret (FunW.call c3) ?_ | refine XB (FunW.call c2) YX ?_)) | (refine QP (id := 4) [(0, 0), (1, 0), (2, 0), (3, 0), (4, 1), (5, 0), (6, 0), (7, 0), (8, 0), (9, 1), (10, 0), (11, 0)] mixed (by kernel_rfl) fun K hK => ?_) | (refine QP (id := 6) [(0, 0), (1, 0), (2, 0), (3, 0), (4, 0), (5, 0), (6, 0), (7, 2)] mixed (by kernel_rfl) fun K hK => ?_)); simp -implicitDefEqProofs only [Q1, QX, Q8, Qd, Qb, Qf, OpW, QQ, aop, undef, AS.ev, Qc, Qn, Qt, QO, Qg, Qv, QmZ, Qni, AV.Qmr, Qo, Xj, QB, Qnc, Qnd, Qs, Qu, QI, Xq, Qne, Qnf, ↓reduceIte, Qm5, Qm6, Nat.reduceAdd, Nat.reduceLT, Nat.reduceLeDiff, Nat.reduceEqDiff, Qm4, Qnh, Qnq, Ql, QG, QH, Xg, aBin, hlen, happ, QmS, QmT, QmU, QmX, QmV, Qm7, Qnb, Qnk, Qnj, QR, Q2, Qm0, Int.toNat_zero, Int.toNat_one, QmW, beq_true, beq_false, T.Qmp, T.Qmq, ti9, ti22, ei22, ti24, XA, Xx, ti58, Zd, QnF, QC, f1, f2, f3, f6, ho', hll, ga, gc, z0, z1, z2, b1, b3, b4, hsa1, hsa2, T.Qmq, T.Qmp]) | (with_reducible (first | refine Qq ?_ | refine QF ?_)) | ((with_reducible refine hK _ ?_); clear hK) | (refine Qk rfl ?_; simp only [↓reduceIte]))
          simp -implicitDefEqProofs only [QmU, QmY, List.mapM_nil, Option.pure_def, QmU, QN, Qp, Qm2]
          exact Ya hi hj hij (.keep (.tup _ fun x hx => by cases hx)) ⟨rfl, rfl⟩
    · cases b3 : (oc != 0)
      · have hq1 : q1 = false := by rw [eq1, b1, b2]; rfl
        have hq3 : q3 = false := by rw [eq3, b2, b3]; rfl
        rw [hq1] at c1
        rw [hq3] at c3
        refine Qe Tryz.func35 rfl Tryz.call35 Tryz.ntmps35 (congrArg Array.toList Tryz.results35) (by simp) ?_
        repeat (first | ((first | (with_reducible (first | refine Qa fun K E hK hE => ?_ | refine Qr fun K E hK hE => ?_ | refine Qz ct ?_ | refine QZ ca ?_ | refine QZ cc ?_ | refine FunW.ret (FunW.call c1) ?_ | refine FunW.ret (FunW.call c3) ?_ | refine XB (FunW.call c2) YX ?_)) | (refine QP (id := 4) [(0, 0), (1, 0), (2, 0), (3, 0), (4, 1), (5, 0), (6, 0), (7, 0), (8, 0), (9, 1), (10, 0), (11, 0)] mixed (by kernel_rfl) fun K hK => ?_) | (refine QP (id := 6) [(0, 0), (1, 0), (2, 0), (3, 0), (4, 0), (5, 0), (6, 0), (7, 2)] mixed (by kernel_rfl) fun K hK => ?_)); simp -implicitDefEqProofs only [Q1, QX, Q8, Qd, Qb, Qf, OpW, QQ, aop, undef, AS.ev, Qc, Qn, Qt, QO, Qg, Qv, QmZ, Qni, AV.Qmr, Qo, Xj, QB, Qnc, Qnd, Qs, Qu, QI, Xq, Qne, ↓reduceIte, Qm5, Qm6, Nat.reduceAdd, Nat.reduceLT, Nat.reduceLeDiff, Nat.reduceEqDiff, Qm4, Qnh, Qnq, Ql, QG, QH, Xg, aBin, hlen, happ, QmS, QmT, QmU, QmX, QmV, Qm7, Qnb, Qnk, Qnj, QR, Q2, Int.toNat_zero, Int.toNat_one, QmW, beq_true, T.Qmp, T.Qmq, ti9, ti22, ei22, ti24, XA, Xx, ti58, Zd, QnF, QC, f1, f2, f3, f6, ho', hll, ga, gc, z0, z1, z2, b1, b3, hsa1, hsa2, T.Qmq, T.Qmp]) | (with_reducible (first | refine Qq ?_ | refine QF ?_)) | ((with_reducible refine hK _ ?_); clear hK) | (refine Qk rfl ?_; simp only [↓reduceIte]))
        simp -implicitDefEqProofs only [QmU, QmY, List.mapM_nil, Option.pure_def, QmU, QN, Qp, Qm2]
        exact Ya hi hj hij (.keep (.tup _ fun x hx => by cases hx)) ⟨rfl, rfl⟩
      · cases b4 : (oc == 1)
        · have hq1 : q1 = false := by rw [eq1, b1, b2]; rfl
          have hq3 : q3 = true := by rw [eq3, b2, b3, b4]; rfl
          rw [hq1] at c1
          rw [hq3] at c3
          refine Qe Tryz.func35 rfl Tryz.call35 Tryz.ntmps35 (congrArg Array.toList Tryz.results35) (by simp) ?_
          repeat (first | ((first | (with_reducible (first | refine Qa fun K E hK hE => ?_ | refine Qr fun K E hK hE => ?_ | refine Qz ct ?_ | refine QZ ca ?_ | refine QZ cc ?_ | refine FunW.ret (FunW.call c1) ?_ | refine FunW.ret (FunW.call c3) ?_ | refine XB (FunW.call c2) YX ?_)) | (refine QP (id := 4) [(0, 0), (1, 0), (2, 0), (3, 0), (4, 1), (5, 0), (6, 0), (7, 0), (8, 0), (9, 1), (10, 0), (11, 0)] mixed (by kernel_rfl) fun K hK => ?_) | (refine QP (id := 6) [(0, 0), (1, 0), (2, 0), (3, 0), (4, 0), (5, 0), (6, 0), (7, 2)] mixed (by kernel_rfl) fun K hK => ?_)); simp -implicitDefEqProofs only [Q1, QX, Q8, Qd, Qb, Qf, OpW, QQ, aop, undef, AS.ev, Qc, Qn, Qt, QO, Qg, Qv, QmZ, Qni, AV.Qmr, Qo, Xj, QB, Qnc, Qnd, Qs, Qu, QI, Xq, Qne, ↓reduceIte, Qm5, Qm6, Nat.reduceAdd, Nat.reduceLT, Nat.reduceLeDiff, Nat.reduceEqDiff, Qm4, Qnh, Qnq, Ql, QG, QH, Xg, aBin, hlen, happ, QmS, QmT, QmU, QmX, QmV, Qm7, Qnb, Qnk, Qnj, QR, Q2, Qm0, Int.toNat_zero, Int.toNat_one, QmW, beq_true, T.Qmp, T.Qmq, ti9, ti22, ei22, ti24, XA, Xx, ti58, Zd, QnF, QC, f1, f2, f3, f6, ho', hll, ga, gc, z0, z1, z2, b1, b2, b3, b4, hsa1, hsa2, T.Qmq, T.Qmp]) | (with_reducible (first | refine Qq ?_ | refine QF ?_)) | ((with_reducible refine hK _ ?_); clear hK) | (refine Qk rfl ?_; simp only [↓reduceIte]))
          simp -implicitDefEqProofs only [QmU, QmY, List.mapM_nil, Option.pure_def, QmU, QN, Qp, Qm2]
          exact Ya hi hj hij (.keep (.tup _ fun x hx => by cases hx)) ⟨rfl, rfl⟩
        · have hq1 : q1 = false := by rw [eq1, b1, b2]; rfl
          have hq3 : q3 = true := by rw [eq3, b2, b3, b4]; rfl
          rw [hq1] at c1
          rw [hq3] at c3
          refine Qe Tryz.func35 rfl Tryz.call35 Tryz.ntmps35 (congrArg Array.toList Tryz.results35) (by simp) ?_
          repeat (first | ((first | (with_reducible (first | refine Qa fun K E hK hE => ?_ | refine Qr fun K E hK hE => ?_ | refine Qz ct ?_ | refine QZ ca ?_ | refine QZ cc ?_ | refine FunW.ret (FunW.call c1) ?_ | refine FunW.ret (FunW.call c3) ?_ | refine XB (FunW.call c2) YX ?_)) | (refine QP (id := 4) [(0, 0), (1, 0), (2, 0), (3, 0), (4, 1), (5, 0), (6, 0), (7, 0), (8, 0), (9, 1), (10, 0), (11, 0)] mixed (by kernel_rfl) fun K hK => ?_) | (refine QP (id := 6) [(0, 0), (1, 0), (2, 0), (3, 0), (4, 0), (5, 0), (6, 0), (7, 2)] mixed (by kernel_rfl) fun K hK => ?_)); simp -implicitDefEqProofs only [Q1, QX, Q8, Qd, Qb, Qf, OpW, QQ, aop, undef, AS.ev, Qc, Qn, Qt, QO, Qg, Qv, QmZ, Qni, AV.Qmr, Qo, Xj, QB, Qnc, Qnd, Qs, Qu, QI, Xq, Qne, Qnf, ↓reduceIte, Qm5, Qm6, Nat.reduceAdd, Nat.reduceLT, Nat.reduceLeDiff, Nat.reduceEqDiff, Qm4, Qnh, Qnq, Ql, QG, QH, Xg, aBin, hlen, happ, QmS, QmT, QmU, QmX, QmV, Qm7, Qnb, Qnk, Qnj, QR, Q2, Qm0, Int.toNat_zero, Int.toNat_one, QmW, beq_true, beq_false, T.Qmp, T.Qmq, ti9, ti22, ei22, ti24, XA, Xx, ti58, Zd, QnF, QC, f1, f2, f3, f6, ho', hll, ga, gc, z0, z1, z2, b1, b3, b4, hsa1, hsa2, T.Qmq, T.Qmp]) | (with_reducible (first | refine Qq ?_ | refine QF ?_)) | ((with_reducible refine hK _ ?_); clear hK) | (refine Qk rfl ?_; simp only [↓reduceIte]))
          simp -implicitDefEqProofs only [QmU, QmY, List.mapM_nil, Option.pure_def, QmU, QN, Qp, Qm2]
          exact Ya hi hj hij (.keep (.tup _ fun x hx => by cases hx)) ⟨rfl, rfl⟩
  · cases b2 : (o == 2)
    · cases b3 : (oc != 0)
      · have hq1 : q1 = false := by rw [eq1, b1, b2]; rfl
        have hq3 : q3 = false := by rw [eq3, b2, b3]; rfl
        rw [hq1] at c1
        rw [hq3] at c3
        refine Qe Tryz.func35 rfl Tryz.call35 Tryz.ntmps35 (congrArg Array.toList Tryz.results35) (by simp) ?_
        repeat (first | ((first | (with_reducible (first | refine Qa fun K E hK hE => ?_ | refine Qr fun K E hK hE => ?_ | refine Qz ct ?_ | refine QZ ca ?_ | refine QZ cc ?_ | refine FunW.ret (FunW.call c1) ?_ | refine FunW.ret (FunW.call c3) ?_ | refine XB (FunW.call c2) YX ?_)) | (refine QP (id := 4) [(0, 0), (1, 0), (2, 0), (3, 0), (4, 1), (5, 0), (6, 0), (7, 0), (8, 0), (9, 1), (10, 0), (11, 0)] mixed (by kernel_rfl) fun K hK => ?_) | (refine QP (id := 6) [(0, 0), (1, 0), (2, 0), (3, 0), (4, 0), (5, 0), (6, 0), (7, 2)] mixed (by kernel_rfl) fun K hK => ?_)); simp -implicitDefEqProofs only [Q1, QX, Q8, Qd, Qb, Qf, OpW, QQ, aop, undef, AS.ev, Qc, Qn, Qt, QO, Qg, Qv, QmZ, Qni, AV.Qmr, Qo, Xj, QB, Qnc, Qnd, Qs, Qu, QI, Xq, Qne, ↓reduceIte, Qm5, Qm6, Nat.reduceAdd, Nat.reduceLT, Nat.reduceLeDiff, Nat.reduceEqDiff, Qm4, Qnh, Qnq, Ql, QG, QH, Xg, aBin, hlen, happ, QmS, QmT, QmU, QmX, QmV, Qm7, Qnb, Qnk, Qnj, QR, Q2, Qm0, Int.toNat_zero, Int.toNat_one, QmW, beq_true, T.Qmp, T.Qmq, ti9, ti22, ei22, ti24, XA, Xx, ti58, Zd, QnF, QC, f1, f2, f3, f6, ho', hll, ga, gc, z0, z1, z2, b1, b2, b3, hsa1, hsa2, T.Qmq, T.Qmp]) | (with_reducible (first | refine Qq ?_ | refine QF ?_)) | ((with_reducible refine hK _ ?_); clear hK) | (refine Qk rfl ?_; simp only [↓reduceIte]))
        simp -implicitDefEqProofs only [QmU, QmY, List.mapM_nil, Option.pure_def, QmU, QN, Qp, Qm2]
        exact Ya hi hj hij (.keep (.tup _ fun x hx => by cases hx)) ⟨rfl, rfl⟩
      · cases b4 : (oc == 1)
        · have hq1 : q1 = false := by rw [eq1, b1, b2]; rfl
          have hq3 : q3 = false := by rw [eq3, b2, b3, b4]; rfl
          rw [hq1] at c1
          rw [hq3] at c3
          refine Qe Tryz.func35 rfl Tryz.call35 Tryz.ntmps35 (congrArg Array.toList Tryz.results35) (by simp) ?_
          repeat (first | ((first | (with_reducible (first | refine Qa fun K E hK hE => ?_ | refine Qr fun K E hK hE => ?_ | refine Qz ct ?_ | refine QZ ca ?_ | refine QZ cc ?_ | refine FunW.ret (FunW.call c1) ?_ | refine FunW.ret (FunW.call c3) ?_ | refine XB (FunW.call c2) YX ?_)) | (refine QP (id := 4) [(0, 0), (1, 0), (2, 0), (3, 0), (4, 1), (5, 0), (6, 0), (7, 0), (8, 0), (9, 1), (10, 0), (11, 0)] mixed (by kernel_rfl) fun K hK => ?_) | (refine QP (id := 6) [(0, 0), (1, 0), (2, 0), (3, 0), (4, 0), (5, 0), (6, 0), (7, 2)] mixed (by kernel_rfl) fun K hK => ?_)); simp -implicitDefEqProofs only [Q1, QX, Q8, Qd, Qb, Qf, OpW, QQ, aop, undef, AS.ev, Qc, Qn, QO, Qg, Qv, QmZ, Qni, AV.Qmr, Qo, Xj, QB, Qnc, Qnd, Qs, Qu, QI, Xq, Qne, ↓reduceIte, Qm5, Qm6, Nat.reduceAdd, Nat.reduceLT, Nat.reduceLeDiff, Nat.reduceEqDiff, Qm4, Qnh, Qnq, Ql, QG, QH, Xg, aBin, hlen, happ, QmS, QmT, QmU, QmX, QmV, Qm7, Qnb, Qnk, Qnj, QR, Q2, Qm0, Int.toNat_zero, Int.toNat_one, QmW, T.Qmp, T.Qmq, ti9, ti22, ei22, ti24, XA, Xx, ti58, Zd, QnF, QC, f1, f2, f3, f6, ho', hll, ga, gc, z0, z1, z2, b1, b2, b3, b4, hsa1, hsa2, T.Qmq, T.Qmp]) | (with_reducible (first | refine Qq ?_ | refine QF ?_)) | ((with_reducible refine hK _ ?_); clear hK) | (refine Qk rfl ?_; simp only [↓reduceIte]))
          simp -implicitDefEqProofs only [QmU, QmY, List.mapM_nil, Option.pure_def, QmU, QN, Qp, Qm2]
          exact Ya hi hj hij (.keep (.tup _ fun x hx => by cases hx)) ⟨rfl, rfl⟩
        · have hq1 : q1 = false := by rw [eq1, b1, b2]; rfl
          have hq3 : q3 = true := by rw [eq3, b2, b3, b4]; rfl
          rw [hq1] at c1
          rw [hq3] at c3
          refine Qe Tryz.func35 rfl Tryz.call35 Tryz.ntmps35 (congrArg Array.toList Tryz.results35) (by simp) ?_
          repeat (first | ((first | (with_reducible (first | refine Qa fun K E hK hE => ?_ | refine Qr fun K E hK hE => ?_ | refine Qz ct ?_ | refine QZ ca ?_ | refine QZ cc ?_ | refine FunW.ret (FunW.call c1) ?_ | refine FunW.ret (FunW.call c3) ?_ | refine XB (FunW.call c2) YX ?_)) | (refine QP (id := 4) [(0, 0), (1, 0), (2, 0), (3, 0), (4, 1), (5, 0), (6, 0), (7, 0), (8, 0), (9, 1), (10, 0), (11, 0)] mixed (by kernel_rfl) fun K hK => ?_) | (refine QP (id := 6) [(0, 0), (1, 0), (2, 0), (3, 0), (4, 0), (5, 0), (6, 0), (7, 2)] mixed (by kernel_rfl) fun K hK => ?_)); simp -implicitDefEqProofs only [Q1, QX, Q8, Qd, Qb, Qf, OpW, QQ, aop, undef, AS.ev, Qc, Qn, Qt, QO, Qg, Qv, QmZ, Qni, AV.Qmr, Qo, Xj, QB, Qnc, Qnd, Qs, Qu, QI, Xq, Qne, Qnf, ↓reduceIte, Qm5, Qm6, Nat.reduceAdd, Nat.reduceLT, Nat.reduceLeDiff, Nat.reduceEqDiff, Qm4, Qnh, Qnq, Ql, QG, QH, Xg, aBin, hlen, happ, QmS, QmT, QmU, QmX, QmV, Qm7, Qnb, Qnk, Qnj, QR, Q2, Qm0, Int.toNat_zero, Int.toNat_one, beq_false, T.Qmp, T.Qmq, ti9, ti22, ei22, ti24, XA, Xx, ti58, Zd, QnF, QC, f1, f2, f3, f6, ho', hll, ga, gc, z0, z1, z2, b1, b2, b3, b4, hsa1, hsa2, T.Qmq, T.Qmp]) | (with_reducible (first | refine Qq ?_ | refine QF ?_)) | ((with_reducible refine hK _ ?_); clear hK) | (refine Qk rfl ?_; simp only [↓reduceIte]))
          simp -implicitDefEqProofs only [QmU, QmY, List.mapM_nil, Option.pure_def, QmU, QN, Qp, Qm2]
          exact Ya hi hj hij (.keep (.tup _ fun x hx => by cases hx)) ⟨rfl, rfl⟩
    · cases b3 : (oc != 0)
      · have hq1 : q1 = true := by rw [eq1, b1, b2]; rfl
        have hq3 : q3 = false := by rw [eq3, b2, b3]; rfl
        rw [hq1] at c1
        rw [hq3] at c3
        refine Qe Tryz.func35 rfl Tryz.call35 Tryz.ntmps35 (congrArg Array.toList Tryz.results35) (by simp) ?_
        repeat (first | ((first | (with_reducible (first | refine Qa fun K E hK hE => ?_ | refine Qr fun K E hK hE => ?_ | refine Qz ct ?_ | refine QZ ca ?_ | refine QZ cc ?_ | refine FunW.ret (FunW.call c1) ?_ | refine FunW.ret (FunW.call c3) ?_ | refine XB (FunW.call c2) YX ?_)) | (refine QP (id := 4) [(0, 0), (1, 0), (2, 0), (3, 0), (4, 1), (5, 0), (6, 0), (7, 0), (8, 0), (9, 1), (10, 0), (11, 0)] mixed (by kernel_rfl) fun K hK => ?_) | (refine QP (id := 6) [(0, 0), (1, 0), (2, 0), (3, 0), (4, 0), (5, 0), (6, 0), (7, 2)] mixed (by kernel_rfl) fun K hK => ?_)); simp -implicitDefEqProofs only [Q1, QX, Q8, Qd, Qb, Qf, OpW, QQ, aop, undef, AS.ev, Qc, Qn, Qt, QO, Qg, Qv, QmZ, Qni, AV.Qmr, Qo, Xj, QB, Qnc, Qnd, Qs, Qu, QI, Xq, Qne, ↓reduceIte, Qm5, Qm6, Nat.reduceAdd, Nat.reduceLT, Nat.reduceLeDiff, Nat.reduceEqDiff, Qm4, Qnh, Qnq, Ql, QG, QH, Xg, aBin, hlen, happ, QmS, QmT, QmU, QmX, QmV, Qm7, Qnb, Qnk, Qnj, QR, Q2, Qm0, Int.toNat_zero, Int.toNat_one, QmW, beq_true, T.Qmp, T.Qmq, ti9, ti22, ei22, ti24, XA, Xx, ti58, Zd, QnF, QC, f1, f2, f3, f6, ho', hll, ga, gc, z0, z1, z2, b1, b2, b3, hsa1, hsa2, T.Qmq, T.Qmp]) | (with_reducible (first | refine Qq ?_ | refine QF ?_)) | ((with_reducible refine hK _ ?_); clear hK) | (refine Qk rfl ?_; simp only [↓reduceIte]))
        simp -implicitDefEqProofs only [QmU, QmY, List.mapM_nil, Option.pure_def, QmU, QN, Qp, Qm2]
        exact Ya hi hj hij (.keep (.tup _ fun x hx => by cases hx)) ⟨rfl, rfl⟩
      · cases b4 : (oc == 1)
        · have hq1 : q1 = true := by rw [eq1, b1, b2]; rfl
          have hq3 : q3 = true := by rw [eq3, b2, b3, b4]; rfl
          rw [hq1] at c1
          rw [hq3] at c3
          refine Qe Tryz.func35 rfl Tryz.call35 Tryz.ntmps35 (congrArg Array.toList Tryz.results35) (by simp) ?_
          repeat (first | ((first | (with_reducible (first | refine Qa fun K E hK hE => ?_ | refine Qr fun K E hK hE => ?_ | refine Qz ct ?_ | refine QZ ca ?_ | refine QZ cc ?_ | refine FunW.ret (FunW.call c1) ?_ | refine FunW.ret (FunW.call c3) ?_ | refine XB (FunW.call c2) YX ?_)) | (refine QP (id := 4) [(0, 0), (1, 0), (2, 0), (3, 0), (4, 1), (5, 0), (6, 0), (7, 0), (8, 0), (9, 1), (10, 0), (11, 0)] mixed (by kernel_rfl) fun K hK => ?_) | (refine QP (id := 6) [(0, 0), (1, 0), (2, 0), (3, 0), (4, 0), (5, 0), (6, 0), (7, 2)] mixed (by kernel_rfl) fun K hK => ?_)); simp -implicitDefEqProofs only [Q1, QX, Q8, Qd, Qb, Qf, OpW, QQ, aop, undef, AS.ev, Qc, Qn, QO, Qg, Qv, QmZ, Qni, AV.Qmr, Qo, Xj, QB, Qnc, Qnd, Qs, Qu, QI, Xq, Qne, ↓reduceIte, Qm5, Qm6, Nat.reduceAdd, Nat.reduceLT, Nat.reduceLeDiff, Nat.reduceEqDiff, Qm4, Qnh, Qnq, Ql, QG, QH, Xg, aBin, hlen, happ, QmS, QmT, QmU, QmX, QmV, Qm7, Qnb, Qnk, Qnj, QR, Q2, Qm0, Int.toNat_zero, Int.toNat_one, QmW, T.Qmp, T.Qmq, ti9, ti22, ei22, ti24, XA, Xx, ti58, Zd, QnF, QC, f1, f2, f3, f6, ho', hll, ga, gc, z0, z1, z2, b1, b2, b3, b4, hsa1, hsa2, T.Qmq, T.Qmp]) | (with_reducible (first | refine Qq ?_ | refine QF ?_)) | ((with_reducible refine hK _ ?_); clear hK) | (refine Qk rfl ?_; simp only [↓reduceIte]))
          simp -implicitDefEqProofs only [QmU, QmY, List.mapM_nil, Option.pure_def, QmU, QN, Qp, Qm2]
          exact Ya hi hj hij (.keep (.tup _ fun x hx => by cases hx)) ⟨rfl, rfl⟩
        · have hq1 : q1 = true := by rw [eq1, b1, b2]; rfl
          have hq3 : q3 = true := by rw [eq3, b2, b3, b4]; rfl
          rw [hq1] at c1
          rw [hq3] at c3
          refine Qe Tryz.func35 rfl Tryz.call35 Tryz.ntmps35 (congrArg Array.toList Tryz.results35) (by simp) ?_
          repeat (first | ((first | (with_reducible (first | refine Qa fun K E hK hE => ?_ | refine Qr fun K E hK hE => ?_ | refine Qz ct ?_ | refine QZ ca ?_ | refine QZ cc ?_ | refine FunW.ret (FunW.call c1) ?_ | refine FunW.ret (FunW.call c3) ?_ | refine XB (FunW.call c2) YX ?_)) | (refine QP (id := 4) [(0, 0), (1, 0), (2, 0), (3, 0), (4, 1), (5, 0), (6, 0), (7, 0), (8, 0), (9, 1), (10, 0), (11, 0)] mixed (by kernel_rfl) fun K hK => ?_) | (refine QP (id := 6) [(0, 0), (1, 0), (2, 0), (3, 0), (4, 0), (5, 0), (6, 0), (7, 2)] mixed (by kernel_rfl) fun K hK => ?_)); simp -implicitDefEqProofs only [Q1, QX, Q8, Qd, Qb, Qf, OpW, QQ, aop, undef, AS.ev, Qc, Qn, Qt, QO, Qg, Qv, QmZ, Qni, AV.Qmr, Qo, Xj, QB, Qnc, Qnd, Qs, Qu, QI, Xq, Qne, Qnf, ↓reduceIte, Qm5, Qm6, Nat.reduceAdd, Nat.reduceLT, Nat.reduceLeDiff, Nat.reduceEqDiff, Qm4, Qnh, Qnq, Ql, QG, QH, Xg, aBin, hlen, happ, QmS, QmT, QmU, QmX, QmV, Qm7, Qnb, Qnk, Qnj, QR, Q2, Qm0, Int.toNat_zero, Int.toNat_one, beq_false, T.Qmp, T.Qmq, ti9, ti22, ei22, ti24, XA, Xx, ti58, Zd, QnF, QC, f1, f2, f3, f6, ho', hll, ga, gc, z0, z1, z2, b1, b2, b3, b4, hsa1, hsa2, T.Qmq, T.Qmp]) | (with_reducible (first | refine Qq ?_ | refine QF ?_)) | ((with_reducible refine hK _ ?_); clear hK) | (refine Qk rfl ?_; simp only [↓reduceIte]))
          simp -implicitDefEqProofs only [QmU, QmY, List.mapM_nil, Option.pure_def, QmU, QN, Qp, Qm2]
          exact Ya hi hj hij (.keep (.tup _ fun x hx => by cases hx)) ⟨rfl, rfl⟩
end Go.Proofs.YtehjodmnajgdgaaGreatDoor.Ab
set_option maxRecDepth 4000
namespace Go.Proofs.YtehjodmnajgdgaaGreatDoor.Ab
open Go.Proofs
theorem Qf2 (h : AH) (_ : 3 = 3) : Keep h h := Keep.refl h
theorem QiY {h : AH} {i j : Nat} (hi : i < h.length) (hj : j < h.length) (hij : i ≠ j) (t : T) (ho : t.oper = 0) (hl : t.args.length ≤ 1000000)
    (l0 : t.kind = 0 → -9223372036854775807 ≤ t.int ∧ t.int ≤ 9223372036854775807) (l1 : t.kind = 1 → 0 ≤ t.int ∧ t.int ≤ 1048576)
    (ih : ∀ a ∈ t.args, TIh i j a) (hG : X9 (HB h i j true (.empty))) (u : Bool) (tx : ByteArray)
    (s : ByteArray) (es : s = if t.kind = 0 then decZ t.int else if t.kind = 1 then vOf (decN t.int.toNat) else funT t.name (txts t.args)) (hs : tx.size + s.size ≤ 140737488355328) :
    Wri 35 [.ptr i 0 0, t.av] h i j u tx s := by
  have eav : t.av = .agg [.i t.kind, .i t.int, .v (.string t.name), .sl 4 (avs t.args) none] := by cases t; rfl
  obtain ⟨L, hL⟩ : ∃ L : AH, L = [AB.cells 58 1 [.ptr i 0 0], AB.cells 24 4 [t.av]] := ⟨_, rfl⟩
  have hlL : (h ++ L).length = h.length + 2 := by rw [hL]; simp
  have hi' : i < (h ++ L).length := by omega
  have hj' : j < (h ++ L).length := by omega
  have gapp := fun (u : Bool) (tx : ByteArray) (L : AH) => QhO (h := h) (i := i) (j := j) hi hj u tx L
  have hG' : X9 (HB (h ++ L) i j true (.empty)) := by rw [gapp]; exact HasG.app hG _
  have hG2 : X9 (HB (h ++ L) i j u tx) := Qma hij hG'
  have ct := Qbi t (by simp only [maxLen]; omega)
  rw [ho, eav] at ct
  have f1 := Qev h i j
  have f2 := fun u tx L => Qdy h i j u tx L
  have f3 := fun u tx L => Qgu h i j u tx L
  have f6 := fun u tx L => Qdf (h := h) hi hij u tx L
  by_cases k0 : t.kind = 0
  · rw [if_pos k0] at es
    rw [k0] at eav ct
    have c1 := Qiw t.int (by have := l0 k0; omega) (l0 k0).2 _ hG2
    have c2 := wstr (h := h ++ L) hi' hj' hij u tx s hs
    rw [es] at c2
    rw [gapp, hL, eav] at c1
    rw [gapp, gapp, hL, eav] at c2
    rw [eav, es]
    refine Qe Tryz.func35 rfl Tryz.call35 Tryz.ntmps35 (congrArg Array.toList Tryz.results35) (by simp) ?_
    repeat (first | ((first | (with_reducible (first | refine Qa fun K E hK hE => ?_ | refine Qz ct ?_ | refine XB (FunW.call c1) (Qf2 _) ?_ | refine XB (FunW.call c2) YX ?_)) | (refine XO (id := 9) [(0, 0), (1, 0), (2, 0), (3, 0), (4, 0), (5, 3), (6, 2)] mixed (by kernel_rfl) fun K hK => ?_)); simp -implicitDefEqProofs only [Q1, QX, Q8, Qd, Qb, Qf, OpW, QQ, aop, undef, AS.ev, Qc, Qn, Qg, Qv, QmZ, Qni, AV.Qmr, Qo, Xj, QB, Qnc, Qnd, Qs, Qu, QI, Xq, Qne, ↓reduceIte, Qm5, Qm6, Nat.reduceAdd, Nat.reduceLT, Nat.reduceLeDiff, Nat.reduceEqDiff, Qm4, Qnh, Qnq, Ql, QG, QH, aBin, hlen, happ, QmS, QmT, QmU, QmV, Qm7, Qnb, Qnk, Qnj, QR, Q2, Qm0, QnD, ti3, ti24, Xu, XF, ti58, Zd, QC, f1, f2, f3, f6]) | (with_reducible (first | refine Qq ?_ | refine QF ?_)) | ((with_reducible refine hK _ ?_); clear hK) | (refine Qk rfl ?_; simp only [↓reduceIte, QmW]))
    simp -implicitDefEqProofs only [QmU, QmY, List.mapM_nil, Option.pure_def, QmU, QN, Qp, Qm2]
    exact Ya hi hj hij (.keep (.tup _ fun x hx => by cases hx)) ⟨rfl, rfl⟩
  · rw [if_neg k0] at es
    have m0 : (t.kind == 0) = false := by simpa using k0
    by_cases k1 : t.kind = 1
    · rw [if_pos k1] at es
      rw [k1] at eav ct
      have z1 : ((1 : Int) == 0) = false := by decide
      have en : t.int = (t.int.toNat : Int) := by have := l1 k1; omega
      have c1 := QdC t.int.toNat (by have := l1 k1; omega) _ hG2
      rw [← en] at c1
      have c2 := wstr (h := h ++ L) hi' hj' hij u tx s hs
      rw [es] at c2
      rw [gapp, hL, eav] at c1
      rw [gapp, gapp, hL, eav] at c2
      rw [eav, es]
      refine Qe Tryz.func35 rfl Tryz.call35 Tryz.ntmps35 (congrArg Array.toList Tryz.results35) (by simp) ?_
      repeat (first | ((first | (with_reducible (first | refine Qa fun K E hK hE => ?_ | refine Qz ct ?_ | refine XB (FunW.call c1) (Qf2 _) ?_ | refine XB (FunW.call c2) YX ?_)) | (refine XO (id := 11) [(0, 0), (1, 0), (2, 0), (3, 0), (4, 0), (5, 3), (6, 2)] mixed (by kernel_rfl) fun K hK => ?_)); simp -implicitDefEqProofs only [Q1, QX, Q8, Qd, Qb, Qf, OpW, QQ, aop, undef, AS.ev, Qc, Qn, Qg, Qv, QmZ, Qni, AV.Qmr, Qo, Xj, QB, Qnc, Qnd, Qs, Qu, QI, Xq, Qne, ↓reduceIte, Qm5, Qm6, Nat.reduceAdd, Nat.reduceLT, Nat.reduceLeDiff, Nat.reduceEqDiff, Qm4, Qnh, Qnq, Ql, QG, QH, aBin, hlen, happ, QmS, QmT, QmU, QmV, Qm7, Qnb, Qnk, Qnj, QR, Q2, Qm0, QnD, ti3, ti24, Xu, XF, ti58, Zd, QC, f1, f2, f3, f6, z1]) | (with_reducible (first | refine Qq ?_ | refine QF ?_)) | ((with_reducible refine hK _ ?_); clear hK) | (refine Qk rfl ?_; simp only [↓reduceIte, QmW]))
      simp -implicitDefEqProofs only [QmU, QmY, List.mapM_nil, Option.pure_def, QmU, QN, Qp, Qm2]
      exact Ya hi hj hij (.keep (.tup _ fun x hx => by cases hx)) ⟨rfl, rfl⟩
    · rw [if_neg k1] at es
      have m1 : (t.kind == 1) = false := by simpa using k1
      have c1 := Z3 (h := h ++ L) hi' hj' hij t.args hl t.name (fun a ha h hi hj hG tx hs => ih a ha h hi hj hG true tx hs) hG' u tx (by rw [← es]; exact hs)
      rw [Wri, ← es, gapp, gapp, hL, eav] at c1
      rw [eav]
      refine Qe Tryz.func35 rfl Tryz.call35 Tryz.ntmps35 (congrArg Array.toList Tryz.results35) (by simp) ?_
      repeat (first | ((first | (with_reducible (first | refine Qa fun K E hK hE => ?_ | refine Qr fun K E hK hE => ?_ | refine Qz ct ?_ | refine FunW.ret (FunW.call c1) ?_))); simp -implicitDefEqProofs only [Qd, Qb, Qf, OpW, QQ, aop, undef, AS.ev, Qc, Qn, Qg, Qv, QmZ, Qni, AV.Qmr, Qo, Xj, QB, Qnc, Qnd, Qs, Qu, QI, Xq, Qne, ↓reduceIte, Qm5, Qm6, Nat.reduceAdd, Nat.reduceLT, Nat.reduceEqDiff, Qm4, Qnh, Qnq, Ql, QG, QH, aBin, hlen, happ, QmS, QmT, QmU, Qm7, Qnb, Qnk, Qnj, QR, Q2, QnD, ti3, ti9, ti22, ti24, Xu, XA, Xx, ti58, f1, f2, f3, m0, m1]) | (with_reducible (first | refine Qq ?_ | refine QF ?_)) | ((with_reducible refine hK _ ?_); clear hK) | (refine Qk rfl ?_; simp only [↓reduceIte, QmW]))
      simp -implicitDefEqProofs only [QmU, QmY, List.mapM_nil, Option.pure_def, QmU, QN, Qp, Qm2]
      exact Ya hi hj hij (.keep (.tup _ fun x hx => by cases hx)) ⟨rfl, rfl⟩
mutual
theorem T.Qmw : ∀ (t : T), t.lex → ∀ (i j : Nat), i ≠ j → TIh i j t
  | .mk k x n l, hx, i, j, hij => fun h hi hj hG u tx hs => by
    obtain ⟨l0, l1, hl, hn, hll⟩ := hx
    have ih := Qbm l hll i j hij
    by_cases ho : (T.mk k x n l).oper = 0
    · have es : (T.mk k x n l).txt = if k = 0 then decZ x else if k = 1 then vOf (decN x.toNat) else funT n (txts l) := by rw [T.txt, if_neg (by simpa using ho)]
      exact QiY hi hj hij (T.mk k x n l) ho hl l0 l1 ih hG u tx _ es hs
    · have hk : k = 2 ∧ l.length = 2 ∧ ofB n ≠ 0 := by
        simp only [T.oper] at ho
        split at ho
        · exact absurd rfl ho
        · rename_i hq
          exact ⟨Decidable.byContradiction fun e => hq (.inl e), Decidable.byContradiction fun e => hq (.inr e), ho⟩
      obtain ⟨rfl, h2, hon⟩ := hk
      match l, h2, hll, ih with
      | [a, c], _, hll, ih =>
        have et : (T.mk 2 x n [a, c]).txt = binT (ofB n) n a.oper c.oper a.txt c.txt := by rw [T.txt, if_pos ho]; rfl
        rw [et] at hs ⊢
        have la : a.args.length ≤ 1000000 := by cases a; exact hll.1.2.2.1
        have lc : c.args.length ≤ 1000000 := by cases c; exact hll.2.1.2.2.1
        exact QkO hi hj hij n x a c hn hon la lc (ih a (by simp)) (ih c (by simp)) hG u tx hs
theorem Qbm : ∀ (l : List T), lexL l → ∀ (i j : Nat), i ≠ j → ∀ a ∈ l, TIh i j a
  | [], _, _, _, _, a, ha => by cases ha
  | t :: l, hx, i, j, hij, a, ha => by
    have h1 := T.Qmw t hx.1 i j hij
    have h2 := Qbm l hx.2 i j hij
    rcases List.mem_cons.1 ha with e | e
    · rw [e]; exact h1
    · exact h2 a e
end
end Go.Proofs.YtehjodmnajgdgaaGreatDoor.Ab
namespace Go.Proofs.YtehjodmnajgdgaaGreatDoor.Ab
theorem Qmf {c : Cx} (hst : St c) (id ty e : Nat) (p : Value) (hb : c.h[id]? = some (.cells ty 2 [.agg [.v p, .v (.slice none 0 0)]])) :
    ∃ c2, Ev c c2 ∧ St c2 ∧ c2.h = (c.h ++ [AB.grow e 1 0]).set id (AB.cells ty 2 [.agg [.v p, .sl 1 [] (some c.h.length)]]) ∧ c2.w = c.w := by
  obtain ⟨hev, hst1⟩ := QjI hst e 1
  have hlt := QS hb
  have hb1 : (c.add c.w (.grow e 1 0) none).h[id]? = some (.cells ty 2 [.agg [.v p, .v (.slice none 0 0)]]) := by
    simp only [Cx.add]; rw [List.getElem?_append_left hlt]; exact hb
  obtain ⟨B, cur, hρ, hcur, h3, h4⟩ := hst1.blocks id _ hb1
  have hev2 := Ev.turn (b' := .cells ty 2 [.agg [.v p, .sl 1 [] (some c.h.length)]]) hst1 hb1 rfl hρ (w := c.w) rfl rfl rfl rfl (fun _ _ => rfl) (.inr ⟨_, rfl, rfl, fun _ cur _ h => ⟨cur, h, rfl⟩⟩)
  have htok : ((c.add c.w (.grow e 1 0) none).turn c.w id (.cells ty 2 [.agg [.v p, .sl 1 [] (some c.h.length)]])).tokNil c.h.length 1 := by
    refine ⟨by simp [Cx.turn, Cx.add], fun e2 s2 n2 hg2 => ?_⟩
    simp only [Cx.turn, Cx.add] at hg2
    rw [List.getElem?_set_ne (by omega), List.getElem?_append_right (Nat.le_refl _), Nat.sub_self] at hg2
    simp at hg2
    exact ⟨hg2.2.1.symm, fun _ => by simp [Cx.turn, Cx.add]⟩
  have hfl : flat [AV.agg [.v p, .v (.slice none 0 0)]] = [.v p, .v (.slice none 0 0)] := rfl
  have hst2 := St.turn (b' := .cells ty 2 [.agg [.v p, .sl 1 [] (some c.h.length)]]) hst1 hb1 rfl hρ (w := c.w) (fun _ _ => rfl) hev2 ⟨B, cur, hρ, hcur, (by simp [AV.cells]), by
    intro j a' hj
    have hj' : [AV.v p, .sl 1 [] (some c.h.length)][j]? = some a' := hj
    match j with
    | 0 =>
      simp only [QmS, QmY] at hj'
      subst hj'
      obtain ⟨u, g1, g2, g3⟩ := h4 0 (.v p) (by rw [hfl]; rfl)
      exact ⟨u, g1, g2, g3.ev hst1 hev2⟩
    | 1 =>
      simp only [QmT, QmS, QmY] at hj'
      subst hj'
      obtain ⟨u, g1, g2, g3⟩ := h4 1 (.v (.slice none 0 0)) (by rw [hfl]; rfl)
      cases g3
      exact ⟨_, g1, g2, .slnil _ _ fun b hb => by cases hb; exact htok⟩
    | j + 2 => simp at hj'⟩
  exact ⟨_, Ev.trans hst hev hev2, hst2, rfl, rfl⟩
theorem Qg4 {P : Program} {fv : AV} {args : List AV} {h : AH} {Q : AOut → AH → Prop} (id ty e : Nat) (p : Value) (hb : h[id]? = some (.cells ty 2 [.agg [.v p, .v (.slice none 0 0)]]))
    (H : FunW P fv args ((h ++ [AB.grow e 1 0]).set id (AB.cells ty 2 [.agg [.v p, .sl 1 [] (some h.length)]])) Q) : FunW P fv args h Q := by
  intro F n c v vals hF hs hh hv hvs o a next Qx h1 h2
  subst hh
  obtain ⟨c2, hev, hst2, hh2, hw⟩ := Qmf hs id ty e p hb
  rw [← hw]
  exact H F n c2 v vals hF hst2 hh2 (hv.ev hs hev) (hvs.ev hs hev) o a next Qx (fun r c' x hQ he => h1 r c' x hQ (Ev.trans hs hev he)) (fun r c' x hQ he => h2 r c' x hQ (Ev.trans hs hev he))
end Go.Proofs.YtehjodmnajgdgaaGreatDoor.Ab
