/-
  An abstract program logic, contracts of functions, and laws of terms and rules (part 3).
-/
import Derived.Test.YtenheconhibonaaGreatDoorAbTwo
import Derived.Lib.Strings
import Derived.Shelf.Strings.Builder1
import Derived.Shelf.Strconv.Itoa0
import Derived.Shelf.Strconv.Itoa1
import Derived.Shelf.LaysM
import Derived.Shelf.Strconv.Itoa2
import Derived.Shelf.Strconv.Itoa3
import Derived.Shelf.Strings.Search1
import Derived.Shelf.Strings.Search2
import Derived.Shelf.Strings.Search3
import Derived.Shelf.Strings.Shaped
import Derived.Test.YtenheconhibonaaGreatDoorProg
import Derived.Lib.ConvBytes
import Derived.Lib.AtoiErrMem
import Derived.ProofKit
import Derived.WalkKit
import Derived.OpenShut
import Derived.LaidSub
import Derived.Lib.LaidTab
import Derived.Lib.ItoaNum
import Derived.Lib.ItoaMem
import Derived.Lib.AtoiTie
import Derived.RecoverIn
set_option linter.unusedVariables false
set_option linter.unusedSimpArgs false
set_option maxHeartbeats 4000000
set_option maxRecDepth 4000
namespace Go.Proofs.YtenheconhibonaaGreatDoor.Ab
open Go.Proofs
theorem FunW.call {P : Program} {f : FuncId} {args : List AV} {h : AH} {Q : AOut → AH → Prop} (H : Yd P f args h Q) : FunW P (.fn (.func f) [] []) args h Q := FunW.fn (by rw [List.nil_append, List.append_nil]; exact H)
theorem FunW.ret {P : Program} {fv : AV} {args : List AV} {h h' : AH} {r : AV} {Q : AOut → AH → Prop} (H : FunW P fv args h fun o h2 => o = .ret r ∧ h2 = h') (k : Q (.ret r) h') : FunW P fv args h Q := H.mono (by rintro _ _ ⟨rfl, rfl⟩; exact k)
def ofN (c : Int) : Int := if 97 ≤ c ∧ c ≤ 122 then 1 else if (65 ≤ c ∧ c ≤ 90) ∨ c = 95 then 2 else if 48 ≤ c ∧ c ≤ 57 then 4 else 0
theorem QiG (c : Int) (hc : 0 ≤ c ∧ c < 256) : Pure Tryz.prog 135 [.v (.int .u8 c)] (.v (.int .u8 (ofN c))) := by
  intro h
  have hcs : c < 48 ∨ 48 ≤ c ∧ c ≤ 57 ∨ 58 ≤ c ∧ c ≤ 64 ∨ 65 ≤ c ∧ c ≤ 90 ∨ 91 ≤ c ∧ c ≤ 94 ∨ c = 95 ∨ c = 96 ∨ 97 ≤ c ∧ c ≤ 122 ∨ 122 < c := by omega
  rcases hcs with hc1 | hc1 | hc1 | hc1 | hc1 | hc1 | hc1 | hc1 | hc1
  · -- c < 48
    have e0 : ofN c = 0 := by simp only [ofN]; repeat' (first | rw [if_pos (by omega)] | rw [if_neg (by omega)])
    have a1 : ¬ 97 ≤ c := by omega
    have a2 : c ≤ 122 := by omega
    have a3 : ¬ 65 ≤ c := by omega
    have a4 : c ≤ 90 := by omega
    have a5 : ¬ 48 ≤ c := by omega
    have a6 : c ≤ 57 := by omega
    have a7 : (c == 95) = false := by simp; omega
    refine Qh Tryz.func135 rfl Tryz.call135 Tryz.ntmps135 (congrArg Array.toList Tryz.results135) (by simp) ?_
    repeat (first | ((first | (with_reducible (first | refine Qa fun K E hK hE => ?_ | refine Qo fun K E hK hE => ?_))); simp -implicitDefEqProofs only [Qd, Qb, Qg, OpW, aop, undef, AS.ev, Qc, Qq, Qr, Qk, QD, QlK, ↓reduceIte, Nat.reduceLT, Nat.reduceEqDiff, aBin, QlD, QlE, QlF, QlI, QlG, QS, X5, Qma, QlH, beq_true, a1, a3, a5, a7]) | (with_reducible (first | refine Qi fun K hK => ?_ | refine Qm ?_ | refine Qn ?_ | refine Qv ?_ | refine Qf ?_ | refine Qw ?_)) | ((with_reducible refine hK _ ?_); clear hK) | (refine Qj rfl ?_; simp only [↓reduceIte, QlH]))
    simp only [QN, Qp, Qu, upd, ↓reduceIte, QlJ, QlN]; first | refine Qe (htake _ _) (.keep (.v _)) ⟨by rw [e0], rfl⟩ | refine Qe List.take_length (.keep (.v _)) ⟨by rw [e0], rfl⟩
  · -- 48 ≤ c ∧ c ≤ 57
    have e0 : ofN c = 4 := by simp only [ofN]; repeat' (first | rw [if_pos (by omega)] | rw [if_neg (by omega)])
    have a1 : ¬ 97 ≤ c := by omega
    have a2 : c ≤ 122 := by omega
    have a3 : ¬ 65 ≤ c := by omega
    have a4 : c ≤ 90 := by omega
    have a5 : 48 ≤ c := by omega
    have a6 : c ≤ 57 := by omega
    have a7 : (c == 95) = false := by simp; omega
    refine Qh Tryz.func135 rfl Tryz.call135 Tryz.ntmps135 (congrArg Array.toList Tryz.results135) (by simp) ?_
    repeat (first | ((first | (with_reducible (first | refine Qa fun K E hK hE => ?_ | refine Qo fun K E hK hE => ?_))); simp -implicitDefEqProofs only [Qd, Qb, Qg, OpW, aop, undef, AS.ev, Qc, Qq, Qr, Qk, QD, QlK, ↓reduceIte, Nat.reduceLT, Nat.reduceEqDiff, aBin, QlD, QlE, QlF, QlI, QlG, QS, X5, Ql9, Qma, QlL, QlH, beq_true, a1, a3, a5, a6, a7]) | (with_reducible (first | refine Qi fun K hK => ?_ | refine Qm ?_ | refine Qn ?_ | refine Qf ?_ | refine QB ?_ | refine QH ?_)) | ((with_reducible refine hK _ ?_); clear hK) | (refine Qj rfl ?_; simp only [↓reduceIte, QlH]))
    simp only [QN, Qp, Qu, upd, ↓reduceIte, QlJ, QlN]; first | refine Qe (htake _ _) (.keep (.v _)) ⟨by rw [e0], rfl⟩ | refine Qe List.take_length (.keep (.v _)) ⟨by rw [e0], rfl⟩
  · -- 58 ≤ c ∧ c ≤ 64
    have e0 : ofN c = 0 := by simp only [ofN]; repeat' (first | rw [if_pos (by omega)] | rw [if_neg (by omega)])
    have a1 : ¬ 97 ≤ c := by omega
    have a2 : c ≤ 122 := by omega
    have a3 : ¬ 65 ≤ c := by omega
    have a4 : c ≤ 90 := by omega
    have a5 : 48 ≤ c := by omega
    have a6 : ¬ c ≤ 57 := by omega
    have a7 : (c == 95) = false := by simp; omega
    refine Qh Tryz.func135 rfl Tryz.call135 Tryz.ntmps135 (congrArg Array.toList Tryz.results135) (by simp) ?_
    repeat (first | ((first | (with_reducible (first | refine Qa fun K E hK hE => ?_ | refine Qo fun K E hK hE => ?_))); simp -implicitDefEqProofs only [Qd, Qb, Qg, OpW, aop, undef, AS.ev, Qc, Qq, Qr, Qk, QD, QlK, ↓reduceIte, Nat.reduceLT, Nat.reduceEqDiff, aBin, QlD, QlE, QlF, QlI, QlG, QS, X5, Ql9, Qma, QlL, QlH, beq_true, a1, a3, a5, a6, a7]) | (with_reducible (first | refine Qi fun K hK => ?_ | refine Qm ?_ | refine Qn ?_ | refine Qv ?_ | refine Qf ?_ | refine Qw ?_)) | ((with_reducible refine hK _ ?_); clear hK) | (refine Qj rfl ?_; simp only [↓reduceIte, QlH]))
    simp only [QN, Qp, Qu, upd, ↓reduceIte, QlJ, QlN]; first | refine Qe (htake _ _) (.keep (.v _)) ⟨by rw [e0], rfl⟩ | refine Qe List.take_length (.keep (.v _)) ⟨by rw [e0], rfl⟩
  · -- 65 ≤ c ∧ c ≤ 90
    have e0 : ofN c = 2 := by simp only [ofN]; repeat' (first | rw [if_pos (by omega)] | rw [if_neg (by omega)])
    have a1 : ¬ 97 ≤ c := by omega
    have a2 : c ≤ 122 := by omega
    have a3 : 65 ≤ c := by omega
    have a4 : c ≤ 90 := by omega
    have a5 : 48 ≤ c := by omega
    have a6 : ¬ c ≤ 57 := by omega
    have a7 : (c == 95) = false := by simp; omega
    refine Qh Tryz.func135 rfl Tryz.call135 Tryz.ntmps135 (congrArg Array.toList Tryz.results135) (by simp) ?_
    repeat (first | (((with_reducible refine Qa fun K E hK hE => ?_)); simp -implicitDefEqProofs only [Qd, Qb, Qg, OpW, aop, undef, AS.ev, Qc, Qq, Qr, Qk, QD, QlK, ↓reduceIte, Nat.reduceLT, Nat.reduceEqDiff, aBin, QlD, QlE, QlF, QlI, QlG, X5, Ql9, Qma, QlL, QlH, beq_true, a1, a3, a4]) | (with_reducible (first | refine Qi fun K hK => ?_ | refine Qm ?_ | refine Qn ?_ | refine Qv ?_ | refine Qf ?_ | refine QB ?_ | refine QH ?_)) | ((with_reducible refine hK _ ?_); clear hK) | (refine Qj rfl ?_; simp only [↓reduceIte, QlH]))
    simp only [QN, Qp, Qu, upd, ↓reduceIte, QlJ, QlN]; first | refine Qe (htake _ _) (.keep (.v _)) ⟨by rw [e0], rfl⟩ | refine Qe List.take_length (.keep (.v _)) ⟨by rw [e0], rfl⟩
  · -- 91 ≤ c ∧ c ≤ 94
    have e0 : ofN c = 0 := by simp only [ofN]; repeat' (first | rw [if_pos (by omega)] | rw [if_neg (by omega)])
    have a1 : ¬ 97 ≤ c := by omega
    have a2 : c ≤ 122 := by omega
    have a3 : 65 ≤ c := by omega
    have a4 : ¬ c ≤ 90 := by omega
    have a5 : 48 ≤ c := by omega
    have a6 : ¬ c ≤ 57 := by omega
    have a7 : (c == 95) = false := by simp; omega
    refine Qh Tryz.func135 rfl Tryz.call135 Tryz.ntmps135 (congrArg Array.toList Tryz.results135) (by simp) ?_
    repeat (first | ((first | (with_reducible (first | refine Qa fun K E hK hE => ?_ | refine Qo fun K E hK hE => ?_))); simp -implicitDefEqProofs only [Qd, Qb, Qg, OpW, aop, undef, AS.ev, Qc, Qq, Qr, Qk, QD, QlK, ↓reduceIte, Nat.reduceLT, Nat.reduceEqDiff, aBin, QlD, QlE, QlF, QlI, QlG, QS, X5, Ql9, Qma, QlL, QlH, beq_true, a1, a3, a4, a5, a6, a7]) | (with_reducible (first | refine Qi fun K hK => ?_ | refine Qm ?_ | refine Qn ?_ | refine Qv ?_ | refine Qf ?_ | refine Qw ?_)) | ((with_reducible refine hK _ ?_); clear hK) | (refine Qj rfl ?_; simp only [↓reduceIte, QlH]))
    simp only [QN, Qp, Qu, upd, ↓reduceIte, QlJ, QlN]; first | refine Qe (htake _ _) (.keep (.v _)) ⟨by rw [e0], rfl⟩ | refine Qe List.take_length (.keep (.v _)) ⟨by rw [e0], rfl⟩
  · -- c = 95
    have e0 : ofN c = 2 := by simp only [ofN]; repeat' (first | rw [if_pos (by omega)] | rw [if_neg (by omega)])
    have a1 : ¬ 97 ≤ c := by omega
    have a2 : c ≤ 122 := by omega
    have a3 : 65 ≤ c := by omega
    have a4 : ¬ c ≤ 90 := by omega
    have a5 : 48 ≤ c := by omega
    have a6 : ¬ c ≤ 57 := by omega
    have a7 : (c == 95) = true := by simp; omega
    refine Qh Tryz.func135 rfl Tryz.call135 Tryz.ntmps135 (congrArg Array.toList Tryz.results135) (by simp) ?_
    repeat (first | ((first | (with_reducible (first | refine Qa fun K E hK hE => ?_ | refine Qo fun K E hK hE => ?_))); simp -implicitDefEqProofs only [Qd, Qb, Qg, OpW, aop, undef, AS.ev, Qc, Qq, Qr, Qk, QD, QlK, ↓reduceIte, Nat.reduceLT, Nat.reduceEqDiff, aBin, QlD, QlE, QlF, QlI, QlG, QS, X5, Ql9, Qma, QlL, QlH, beq_true, a1, a3, a4, a7]) | (with_reducible (first | refine Qi fun K hK => ?_ | refine Qm ?_ | refine Qn ?_ | refine Qf ?_ | refine QB ?_ | refine QH ?_)) | ((with_reducible refine hK _ ?_); clear hK) | (refine Qj rfl ?_; simp only [↓reduceIte, QlH]))
    simp only [QN, Qp, Qu, upd, ↓reduceIte, QlJ, QlN]; first | refine Qe (htake _ _) (.keep (.v _)) ⟨by rw [e0], rfl⟩ | refine Qe List.take_length (.keep (.v _)) ⟨by rw [e0], rfl⟩
  · -- c = 96
    have e0 : ofN c = 0 := by simp only [ofN]; repeat' (first | rw [if_pos (by omega)] | rw [if_neg (by omega)])
    have a1 : ¬ 97 ≤ c := by omega
    have a2 : c ≤ 122 := by omega
    have a3 : 65 ≤ c := by omega
    have a4 : ¬ c ≤ 90 := by omega
    have a5 : 48 ≤ c := by omega
    have a6 : ¬ c ≤ 57 := by omega
    have a7 : (c == 95) = false := by simp; omega
    refine Qh Tryz.func135 rfl Tryz.call135 Tryz.ntmps135 (congrArg Array.toList Tryz.results135) (by simp) ?_
    repeat (first | ((first | (with_reducible (first | refine Qa fun K E hK hE => ?_ | refine Qo fun K E hK hE => ?_))); simp -implicitDefEqProofs only [Qd, Qb, Qg, OpW, aop, undef, AS.ev, Qc, Qq, Qr, Qk, QD, QlK, ↓reduceIte, Nat.reduceLT, Nat.reduceEqDiff, aBin, QlD, QlE, QlF, QlI, QlG, QS, X5, Ql9, Qma, QlL, QlH, beq_true, a1, a3, a4, a5, a6, a7]) | (with_reducible (first | refine Qi fun K hK => ?_ | refine Qm ?_ | refine Qn ?_ | refine Qv ?_ | refine Qf ?_ | refine Qw ?_)) | ((with_reducible refine hK _ ?_); clear hK) | (refine Qj rfl ?_; simp only [↓reduceIte, QlH]))
    simp only [QN, Qp, Qu, upd, ↓reduceIte, QlJ, QlN]; first | refine Qe (htake _ _) (.keep (.v _)) ⟨by rw [e0], rfl⟩ | refine Qe List.take_length (.keep (.v _)) ⟨by rw [e0], rfl⟩
  · -- 97 ≤ c ∧ c ≤ 122
    have e0 : ofN c = 1 := by simp only [ofN]; repeat' (first | rw [if_pos (by omega)] | rw [if_neg (by omega)])
    have a1 : 97 ≤ c := by omega
    have a2 : c ≤ 122 := by omega
    have a3 : 65 ≤ c := by omega
    have a4 : ¬ c ≤ 90 := by omega
    have a5 : 48 ≤ c := by omega
    have a6 : ¬ c ≤ 57 := by omega
    have a7 : (c == 95) = false := by simp; omega
    refine Qh Tryz.func135 rfl Tryz.call135 Tryz.ntmps135 (congrArg Array.toList Tryz.results135) (by simp) ?_
    repeat (first | (((with_reducible refine Qa fun K E hK hE => ?_)); simp -implicitDefEqProofs only [Qd, Qb, Qg, OpW, aop, undef, AS.ev, Qc, Qq, Qk, QD, QlK, ↓reduceIte, Nat.reduceLT, Nat.reduceEqDiff, aBin, QlD, QlE, QlF, QlI, QlG, X5, Ql9, QlL, a1, a2]) | (with_reducible (first | refine Qi fun K hK => ?_ | refine Qm ?_ | refine Qn ?_ | refine QB ?_ | refine QH ?_)) | ((with_reducible refine hK _ ?_); clear hK) | (refine Qj rfl ?_; simp only [↓reduceIte]))
    simp only [QN, Qp, Qu, upd, ↓reduceIte, QlJ, QlN]; first | refine Qe (htake _ _) (.keep (.v _)) ⟨by rw [e0], rfl⟩ | refine Qe List.take_length (.keep (.v _)) ⟨by rw [e0], rfl⟩
  · -- 122 < c
    have e0 : ofN c = 0 := by simp only [ofN]; repeat' (first | rw [if_pos (by omega)] | rw [if_neg (by omega)])
    have a1 : 97 ≤ c := by omega
    have a2 : ¬ c ≤ 122 := by omega
    have a3 : 65 ≤ c := by omega
    have a4 : ¬ c ≤ 90 := by omega
    have a5 : 48 ≤ c := by omega
    have a6 : ¬ c ≤ 57 := by omega
    have a7 : (c == 95) = false := by simp; omega
    refine Qh Tryz.func135 rfl Tryz.call135 Tryz.ntmps135 (congrArg Array.toList Tryz.results135) (by simp) ?_
    repeat (first | ((first | (with_reducible (first | refine Qa fun K E hK hE => ?_ | refine Qo fun K E hK hE => ?_))); simp -implicitDefEqProofs only [Qd, Qb, Qg, OpW, aop, undef, AS.ev, Qc, Qq, Qk, QD, QlK, ↓reduceIte, Nat.reduceLT, Nat.reduceEqDiff, aBin, QlD, QlE, QlF, QlI, QlG, QS, X5, Ql9, Qma, QlL, a1, a2, a3, a4, a5, a6, a7]) | (with_reducible (first | refine Qi fun K hK => ?_ | refine Qm ?_ | refine Qn ?_ | refine Qv ?_ | refine Qf ?_ | refine Qw ?_)) | ((with_reducible refine hK _ ?_); clear hK) | (refine Qj rfl ?_; simp only [↓reduceIte, QlH]))
    simp only [QN, Qp, Qu, upd, ↓reduceIte, QlJ, QlN]; first | refine Qe (htake _ _) (.keep (.v _)) ⟨by rw [e0], rfl⟩ | refine Qe List.take_length (.keep (.v _)) ⟨by rw [e0], rfl⟩
theorem Qb7 (c : Int) : Pure Tryz.prog 93 [.v (.int .u8 c)] (.b (decide (97 ≤ c ∧ c ≤ 122))) := by
  intro h
  by_cases a1 : c ≥ 97
  · by_cases a2 : c ≤ 122
    · refine Qh Tryz.func93 rfl Tryz.call93 Tryz.ntmps93 (congrArg Array.toList Tryz.results93) (by simp) ?_
      repeat (first | (((with_reducible refine Qa fun K E hK hE => ?_)); simp -implicitDefEqProofs only [Qd, Qb, Qg, OpW, aop, undef, AS.ev, Qc, Qq, Qr, Qk, QD, QlK, ↓reduceIte, Nat.reduceLT, Nat.reduceEqDiff, aBin, QlD, QlE, QlF, QlI, QlG, X5, Yl, Ql9, QlL, a1, a2]) | (with_reducible refine Qn ?_) | ((with_reducible refine hK _ ?_); clear hK))
      simp only [QN, Qp, Qu, upd, ↓reduceIte, QlJ, QlN]; first | refine Qe (htake _ _) (.keep (.v _)) ⟨by rw [decide_eq_true ⟨a1, a2⟩], rfl⟩ | refine Qe List.take_length (.keep (.v _)) ⟨by rw [decide_eq_true ⟨a1, a2⟩], rfl⟩
    · refine Qh Tryz.func93 rfl Tryz.call93 Tryz.ntmps93 (congrArg Array.toList Tryz.results93) (by simp) ?_
      repeat (first | (((with_reducible refine Qa fun K E hK hE => ?_)); simp -implicitDefEqProofs only [Qd, Qb, Qg, OpW, aop, undef, AS.ev, Qc, Qq, Qr, Qk, QD, QlK, ↓reduceIte, Nat.reduceLT, Nat.reduceEqDiff, aBin, QlD, QlE, QlF, QlI, QlG, X5, Yl, Ql9, Qma, QlL, a1, a2]) | (with_reducible refine Qn ?_) | ((with_reducible refine hK _ ?_); clear hK))
      simp only [QN, Qp, Qu, upd, ↓reduceIte, QlJ, QlN]; first | refine Qe (htake _ _) (.keep (.v _)) ⟨by rw [decide_eq_false (fun h => a2 h.2)], rfl⟩ | refine Qe List.take_length (.keep (.v _)) ⟨by rw [decide_eq_false (fun h => a2 h.2)], rfl⟩
  · refine Qh Tryz.func93 rfl Tryz.call93 Tryz.ntmps93 (congrArg Array.toList Tryz.results93) (by simp) ?_
    repeat (first | (((with_reducible refine Qa fun K E hK hE => ?_)); simp -implicitDefEqProofs only [Qd, Qb, Qg, OpW, aop, undef, AS.ev, Qc, Qq, Qr, Qk, QD, QlK, ↓reduceIte, Nat.reduceLT, Nat.reduceEqDiff, aBin, QlD, QlE, QlF, QlI, QlG, Yl, Qma, QlH, beq_true, a1]) | (with_reducible refine Qn ?_) | ((with_reducible refine hK _ ?_); clear hK))
    simp only [QN, Qp, Qu, upd, ↓reduceIte, QlJ, QlN]; first | refine Qe (htake _ _) (.keep (.v _)) ⟨by rw [decide_eq_false (fun h => a1 h.1)], rfl⟩ | refine Qe List.take_length (.keep (.v _)) ⟨by rw [decide_eq_false (fun h => a1 h.1)], rfl⟩
theorem Qfh (c : Int) : Pure Tryz.prog 133 [.v (.int .u8 c)] (.b (decide (65 ≤ c ∧ c ≤ 90))) := by
  intro h
  by_cases a1 : c ≥ 65
  · by_cases a2 : c ≤ 90
    · refine Qh Tryz.func133 rfl Tryz.call133 Tryz.ntmps133 (congrArg Array.toList Tryz.results133) (by simp) ?_
      repeat (first | (((with_reducible refine Qa fun K E hK hE => ?_)); simp -implicitDefEqProofs only [Qd, Qb, Qg, OpW, aop, undef, AS.ev, Qc, Qq, Qr, Qk, QD, QlK, ↓reduceIte, Nat.reduceLT, Nat.reduceEqDiff, aBin, QlD, QlE, QlF, QlI, QlG, X5, Yl, Ql9, QlL, a1, a2]) | (with_reducible refine Qn ?_) | ((with_reducible refine hK _ ?_); clear hK))
      simp only [QN, Qp, Qu, upd, ↓reduceIte, QlJ, QlN]; first | refine Qe (htake _ _) (.keep (.v _)) ⟨by rw [decide_eq_true ⟨a1, a2⟩], rfl⟩ | refine Qe List.take_length (.keep (.v _)) ⟨by rw [decide_eq_true ⟨a1, a2⟩], rfl⟩
    · refine Qh Tryz.func133 rfl Tryz.call133 Tryz.ntmps133 (congrArg Array.toList Tryz.results133) (by simp) ?_
      repeat (first | (((with_reducible refine Qa fun K E hK hE => ?_)); simp -implicitDefEqProofs only [Qd, Qb, Qg, OpW, aop, undef, AS.ev, Qc, Qq, Qr, Qk, QD, QlK, ↓reduceIte, Nat.reduceLT, Nat.reduceEqDiff, aBin, QlD, QlE, QlF, QlI, QlG, X5, Yl, Ql9, Qma, QlL, a1, a2]) | (with_reducible refine Qn ?_) | ((with_reducible refine hK _ ?_); clear hK))
      simp only [QN, Qp, Qu, upd, ↓reduceIte, QlJ, QlN]; first | refine Qe (htake _ _) (.keep (.v _)) ⟨by rw [decide_eq_false (fun h => a2 h.2)], rfl⟩ | refine Qe List.take_length (.keep (.v _)) ⟨by rw [decide_eq_false (fun h => a2 h.2)], rfl⟩
  · refine Qh Tryz.func133 rfl Tryz.call133 Tryz.ntmps133 (congrArg Array.toList Tryz.results133) (by simp) ?_
    repeat (first | (((with_reducible refine Qa fun K E hK hE => ?_)); simp -implicitDefEqProofs only [Qd, Qb, Qg, OpW, aop, undef, AS.ev, Qc, Qq, Qr, Qk, QD, QlK, ↓reduceIte, Nat.reduceLT, Nat.reduceEqDiff, aBin, QlD, QlE, QlF, QlI, QlG, Yl, Qma, QlH, beq_true, a1]) | (with_reducible refine Qn ?_) | ((with_reducible refine hK _ ?_); clear hK))
    simp only [QN, Qp, Qu, upd, ↓reduceIte, QlJ, QlN]; first | refine Qe (htake _ _) (.keep (.v _)) ⟨by rw [decide_eq_false (fun h => a1 h.1)], rfl⟩ | refine Qe List.take_length (.keep (.v _)) ⟨by rw [decide_eq_false (fun h => a1 h.1)], rfl⟩
def resB (s : ByteArray) : Bool := (s.toList == ({ data := #[99, 111, 110, 115, 116, 114, 97, 105, 110, 116] } : ByteArray).toList) || (s.toList == ({ data := #[116, 114, 117, 101] } : ByteArray).toList) || (s.toList == ({ data := #[102, 97, 105, 108] } : ByteArray).toList) || (s.toList == ({ data := #[105, 115] } : ByteArray).toList) || (s.toList == ({ data := #[105, 110, 116] } : ByteArray).toList) || (s.toList == ({ data := #[103, 114, 111, 117, 110, 100] } : ByteArray).toList)
theorem Qfq (s : ByteArray) : Pure Tryz.prog 99 [.v (.string s)] (.b (resB s)) := by
  intro h
  cases d0 : (s.toList == ({ data := #[99, 111, 110, 115, 116, 114, 97, 105, 110, 116] } : ByteArray).toList) with
  | true =>
    refine Qh Tryz.func99 rfl Tryz.call99 Tryz.ntmps99 (congrArg Array.toList Tryz.results99) (by simp) ?_
    repeat (first | (((with_reducible refine Qa fun K E hK hE => ?_)); simp -implicitDefEqProofs only [Qd, Qb, Qg, OpW, aop, undef, AS.ev, Qc, Qr, QF, Qk, QD, QlK, ↓reduceIte, Nat.reduceLT, Nat.reduceEqDiff, aBin, QlF, QZ, d0]) | (with_reducible (first | refine Qi fun K hK => ?_ | refine Qm ?_ | refine Qn ?_ | refine Qv ?_ | refine Qf ?_ | refine QB ?_ | refine QH ?_)) | ((with_reducible refine hK _ ?_); clear hK) | (refine Qj rfl ?_; simp only [↓reduceIte]))
    simp only [QN, Qp, Qu, upd, ↓reduceIte, QlJ, QlN]; first | refine Qe (htake _ _) (.keep (.v _)) ⟨by simp only [resB, d0, Bool.true_or], rfl⟩ | refine Qe List.take_length (.keep (.v _)) ⟨by simp only [resB, d0, Bool.true_or], rfl⟩
  | false =>
    cases d1 : (s.toList == ({ data := #[116, 114, 117, 101] } : ByteArray).toList) with
    | true =>
      refine Qh Tryz.func99 rfl Tryz.call99 Tryz.ntmps99 (congrArg Array.toList Tryz.results99) (by simp) ?_
      repeat (first | (((with_reducible refine Qa fun K E hK hE => ?_)); simp -implicitDefEqProofs only [Qd, Qb, Qg, OpW, aop, undef, AS.ev, Qc, Qr, QF, Qk, QD, QlK, ↓reduceIte, Nat.reduceLT, Nat.reduceEqDiff, aBin, QlF, QZ, d0, d1]) | (with_reducible (first | refine Qi fun K hK => ?_ | refine Qm ?_ | refine Qn ?_ | refine Qv ?_ | refine Qf ?_ | refine QB ?_ | refine QH ?_)) | ((with_reducible refine hK _ ?_); clear hK) | (refine Qj rfl ?_; simp only [↓reduceIte, QlH]))
      simp only [QN, Qp, Qu, upd, ↓reduceIte, QlJ, QlN]; first | refine Qe (htake _ _) (.keep (.v _)) ⟨by simp only [resB, d0, d1, Bool.or_true, Bool.true_or], rfl⟩ | refine Qe List.take_length (.keep (.v _)) ⟨by simp only [resB, d0, d1, Bool.or_true, Bool.true_or], rfl⟩
    | false =>
      cases d2 : (s.toList == ({ data := #[102, 97, 105, 108] } : ByteArray).toList) with
      | true =>
        refine Qh Tryz.func99 rfl Tryz.call99 Tryz.ntmps99 (congrArg Array.toList Tryz.results99) (by simp) ?_
        repeat (first | (((with_reducible refine Qa fun K E hK hE => ?_)); simp -implicitDefEqProofs only [Qd, Qb, Qg, OpW, aop, undef, AS.ev, Qc, Qr, QF, Qk, QD, QlK, ↓reduceIte, Nat.reduceLT, Nat.reduceEqDiff, aBin, QlF, QZ, d0, d1, d2]) | (with_reducible (first | refine Qi fun K hK => ?_ | refine Qm ?_ | refine Qn ?_ | refine Qv ?_ | refine Qf ?_ | refine QB ?_ | refine QH ?_)) | ((with_reducible refine hK _ ?_); clear hK) | (refine Qj rfl ?_; simp only [↓reduceIte, QlH]))
        simp only [QN, Qp, Qu, upd, ↓reduceIte, QlJ, QlN]; first | refine Qe (htake _ _) (.keep (.v _)) ⟨by simp only [resB, d0, d1, d2, Bool.or_false, Bool.or_true, Bool.true_or], rfl⟩ | refine Qe List.take_length (.keep (.v _)) ⟨by simp only [resB, d0, d1, d2, Bool.or_false, Bool.or_true, Bool.true_or], rfl⟩
      | false =>
        cases d3 : (s.toList == ({ data := #[105, 115] } : ByteArray).toList) with
        | true =>
          refine Qh Tryz.func99 rfl Tryz.call99 Tryz.ntmps99 (congrArg Array.toList Tryz.results99) (by simp) ?_
          repeat (first | (((with_reducible refine Qa fun K E hK hE => ?_)); simp -implicitDefEqProofs only [Qd, Qb, Qg, OpW, aop, undef, AS.ev, Qc, Qr, QF, Qk, QD, QlK, ↓reduceIte, Nat.reduceLT, Nat.reduceEqDiff, aBin, QlF, QZ, d0, d1, d2, d3]) | (with_reducible (first | refine Qi fun K hK => ?_ | refine Qm ?_ | refine Qn ?_ | refine Qv ?_ | refine Qf ?_ | refine QB ?_ | refine QH ?_)) | ((with_reducible refine hK _ ?_); clear hK) | (refine Qj rfl ?_; simp only [↓reduceIte, QlH]))
          simp only [QN, Qp, Qu, upd, ↓reduceIte, QlJ, QlN]; first | refine Qe (htake _ _) (.keep (.v _)) ⟨by simp only [resB, d0, d1, d2, d3, Bool.or_false, Bool.or_true, Bool.true_or], rfl⟩ | refine Qe List.take_length (.keep (.v _)) ⟨by simp only [resB, d0, d1, d2, d3, Bool.or_false, Bool.or_true, Bool.true_or], rfl⟩
        | false =>
          cases d4 : (s.toList == ({ data := #[105, 110, 116] } : ByteArray).toList) with
          | true =>
            refine Qh Tryz.func99 rfl Tryz.call99 Tryz.ntmps99 (congrArg Array.toList Tryz.results99) (by simp) ?_
            repeat (first | (((with_reducible refine Qa fun K E hK hE => ?_)); simp -implicitDefEqProofs only [Qd, Qb, Qg, OpW, aop, undef, AS.ev, Qc, Qr, QF, Qk, QD, QlK, ↓reduceIte, Nat.reduceLT, Nat.reduceEqDiff, aBin, QlF, QZ, d0, d1, d2, d3, d4]) | (with_reducible (first | refine Qi fun K hK => ?_ | refine Qm ?_ | refine Qn ?_ | refine Qv ?_ | refine Qf ?_ | refine QB ?_ | refine QH ?_)) | ((with_reducible refine hK _ ?_); clear hK) | (refine Qj rfl ?_; simp only [↓reduceIte, QlH]))
            simp only [QN, Qp, Qu, upd, ↓reduceIte, QlJ, QlN]; first | refine Qe (htake _ _) (.keep (.v _)) ⟨by simp only [resB, d0, d1, d2, d3, d4, Bool.or_false, Bool.or_true, Bool.true_or], rfl⟩ | refine Qe List.take_length (.keep (.v _)) ⟨by simp only [resB, d0, d1, d2, d3, d4, Bool.or_false, Bool.or_true, Bool.true_or], rfl⟩
          | false =>
            cases d5 : (s.toList == ({ data := #[103, 114, 111, 117, 110, 100] } : ByteArray).toList) with
            | true =>
              refine Qh Tryz.func99 rfl Tryz.call99 Tryz.ntmps99 (congrArg Array.toList Tryz.results99) (by simp) ?_
              repeat (first | ((first | (with_reducible (first | refine Qa fun K E hK hE => ?_ | refine Qo fun K E hK hE => ?_))); simp -implicitDefEqProofs only [Qd, Qb, Qg, OpW, aop, undef, AS.ev, Qc, Qr, QF, Qk, QD, QlK, ↓reduceIte, Nat.reduceLT, Nat.reduceEqDiff, aBin, QlF, QZ, d0, d1, d2, d3, d4, d5]) | (with_reducible (first | refine Qi fun K hK => ?_ | refine Qm ?_ | refine Qn ?_ | refine Qf ?_ | refine QB ?_ | refine QH ?_)) | ((with_reducible refine hK _ ?_); clear hK) | (refine Qj rfl ?_; simp only [↓reduceIte, QlH]))
              simp only [QN, Qp, Qu, upd, ↓reduceIte, QlJ, QlN]; first | refine Qe (htake _ _) (.keep (.v _)) ⟨by simp only [resB, d0, d1, d2, d3, d4, d5, Bool.or_false, Bool.or_true], rfl⟩ | refine Qe List.take_length (.keep (.v _)) ⟨by simp only [resB, d0, d1, d2, d3, d4, d5, Bool.or_false, Bool.or_true], rfl⟩
            | false =>
              refine Qh Tryz.func99 rfl Tryz.call99 Tryz.ntmps99 (congrArg Array.toList Tryz.results99) (by simp) ?_
              repeat (first | ((first | (with_reducible (first | refine Qa fun K E hK hE => ?_ | refine Qo fun K E hK hE => ?_))); simp -implicitDefEqProofs only [Qd, Qb, Qg, OpW, aop, undef, AS.ev, Qc, Qr, QF, Qk, QD, QlK, ↓reduceIte, Nat.reduceLT, Nat.reduceEqDiff, aBin, QlF, QZ, d0, d1, d2, d3, d4, d5]) | (with_reducible (first | refine Qi fun K hK => ?_ | refine Qm ?_ | refine Qn ?_ | refine Qv ?_ | refine Qf ?_ | refine Qw ?_)) | ((with_reducible refine hK _ ?_); clear hK) | (refine Qj rfl ?_; simp only [↓reduceIte, QlH]))
              simp only [QN, Qp, Qu, upd, ↓reduceIte, QlJ, QlN]; first | refine Qe (htake _ _) (.keep (.v _)) ⟨by simp only [resB, d0, d1, d2, d3, d4, d5, Bool.or_false], rfl⟩ | refine Qe List.take_length (.keep (.v _)) ⟨by simp only [resB, d0, d1, d2, d3, d4, d5, Bool.or_false], rfl⟩
theorem QcZ (s : ByteArray) : Pure Tryz.prog 94 [.v (.string s)] (.b (resB s)) := by
  intro h
  cases d0 : (s.toList == ({ data := #[99, 111, 110, 115, 116, 114, 97, 105, 110, 116] } : ByteArray).toList) with
  | true =>
    refine Qh Tryz.func94 rfl Tryz.call94 Tryz.ntmps94 (congrArg Array.toList Tryz.results94) (by simp) ?_
    iterate 3 (try (first | (((with_reducible refine Qa fun K E hK hE => ?_)); simp -implicitDefEqProofs only [Qd, Qb, Qg, OpW, aop, AS.ev, Qc, Qr, Nat.reduceLT]) | (with_reducible refine Qi fun K hK => ?_) | ((with_reducible refine hK _ ?_); clear hK)))
    (with_reducible refine Qo fun K E hK hE => ?_)
    (try simp only [Qme]); refine Qz 4 (fun K1 hK1 => ?_); simp -implicitDefEqProofs only [Qd, Qb, Qg, OpW, aop, undef, AS.ev, Qc, QF, Qk, QD, QlK, Ql0, ↓reduceIte, Nat.reduceLT, Nat.reduceEqDiff, aBin, QlD, QlE, QlF, QlI, QlG, QlO, QlV, QZ, beq_false, d0]; refine hK1 _ ?_; clear hK1
    (try simp only [QlM, QlU]); refine Qz 4 (fun K1 hK1 => ?_); simp -implicitDefEqProofs only [Qd, Qb, Qg, OpW, aop, undef, AS.ev, Qc, Qr, Qk, Ql0, ↓reduceIte, Nat.reduceLT, Nat.reduceEqDiff, QlD, QlE, QlI, QlG, QlO, QlV, beq_false]; refine hK1 _ ?_; clear hK1
    (try simp only [QlM, QlU]); refine Qz 4 (fun K1 hK1 => ?_); simp -implicitDefEqProofs only [Qd, Qb, Qg, OpW, aop, undef, AS.ev, Qc, Qr, Qk, Ql0, ↓reduceIte, Nat.reduceLT, Nat.reduceEqDiff, QlD, QlE, QlI, QlG, QlO, QlV, beq_false]; refine hK1 _ ?_; clear hK1
    (try simp only [QlM, QlU]); refine Qz 4 (fun K1 hK1 => ?_); simp -implicitDefEqProofs only [Qd, Qb, Qg, OpW, aop, undef, AS.ev, Qc, Qr, Qk, Ql0, ↓reduceIte, Nat.reduceLT, Nat.reduceEqDiff, QlD, QlE, QlI, QlG, QlO, QlV, beq_false]; refine hK1 _ ?_; clear hK1
    (try simp only [QlM, QlU]); refine Qz 4 (fun K1 hK1 => ?_); simp -implicitDefEqProofs only [Qd, Qb, Qg, OpW, aop, undef, AS.ev, Qc, Qr, Qk, Ql0, ↓reduceIte, Nat.reduceLT, Nat.reduceEqDiff, QlD, QlE, QlI, QlG, QlO, QlV, beq_false]; refine hK1 _ ?_; clear hK1
    (try simp only [QlM, QlU])
    simp -implicitDefEqProofs only [Qd, Qb, Qg, OpW, aop, undef, AS.ev, Qc, Qr, Qk, Ql0, ↓reduceIte, Nat.reduceLT, Nat.reduceEqDiff, QlD, QlE, QlI, QlG, beq_false]
    repeat (first | (with_reducible (first | refine Qn ?_ | refine Qf ?_)) | ((with_reducible refine hK _ ?_); clear hK))
    simp only [QN, Qp, Qu, upd, ↓reduceIte, QlJ, QlN]; first | refine Qe (htake _ _) (.keep (.v _)) ⟨by simp only [resB, d0, Bool.true_or], rfl⟩ | refine Qe List.take_length (.keep (.v _)) ⟨by simp only [resB, d0, Bool.true_or], rfl⟩
  | false =>
    cases d1 : (s.toList == ({ data := #[116, 114, 117, 101] } : ByteArray).toList) with
    | true =>
      refine Qh Tryz.func94 rfl Tryz.call94 Tryz.ntmps94 (congrArg Array.toList Tryz.results94) (by simp) ?_
      iterate 3 (try (first | (((with_reducible refine Qa fun K E hK hE => ?_)); simp -implicitDefEqProofs only [Qd, Qb, Qg, OpW, aop, AS.ev, Qc, Qr, Nat.reduceLT]) | (with_reducible refine Qi fun K hK => ?_) | ((with_reducible refine hK _ ?_); clear hK)))
      (with_reducible refine Qo fun K E hK hE => ?_)
      (try simp only [Qme]); refine Qz 4 (fun K1 hK1 => ?_); simp -implicitDefEqProofs only [Qd, Qb, Qg, OpW, aop, undef, AS.ev, Qc, QF, Qk, QD, QlK, ↓reduceIte, Nat.reduceLT, Nat.reduceEqDiff, aBin, QlD, QlE, QlF, QlI, QlG, QlO, QlV, QZ, QlL, d0]; refine hK1 _ ?_; clear hK1
      (try simp only [QlM, QlU]); refine Qz 4 (fun K1 hK1 => ?_); simp -implicitDefEqProofs only [Qd, Qb, Qg, OpW, aop, undef, AS.ev, Qc, QF, Qk, Ql0, ↓reduceIte, Nat.reduceLT, Nat.reduceEqDiff, aBin, QlD, QlE, QlF, QlI, QlG, QlO, QlV, QZ, QlL, QlH, beq_false, d1]; refine hK1 _ ?_; clear hK1
      (try simp only [QlM, QlU]); refine Qz 4 (fun K1 hK1 => ?_); simp -implicitDefEqProofs only [Qd, Qb, Qg, OpW, aop, undef, AS.ev, Qc, Qr, Qk, Ql0, ↓reduceIte, Nat.reduceLT, Nat.reduceEqDiff, QlD, QlE, QlI, QlG, QlO, QlV, beq_false]; refine hK1 _ ?_; clear hK1
      (try simp only [QlM, QlU]); refine Qz 4 (fun K1 hK1 => ?_); simp -implicitDefEqProofs only [Qd, Qb, Qg, OpW, aop, undef, AS.ev, Qc, Qr, Qk, Ql0, ↓reduceIte, Nat.reduceLT, Nat.reduceEqDiff, QlD, QlE, QlI, QlG, QlO, QlV, beq_false]; refine hK1 _ ?_; clear hK1
      (try simp only [QlM, QlU]); refine Qz 4 (fun K1 hK1 => ?_); simp -implicitDefEqProofs only [Qd, Qb, Qg, OpW, aop, undef, AS.ev, Qc, Qr, Qk, Ql0, ↓reduceIte, Nat.reduceLT, Nat.reduceEqDiff, QlD, QlE, QlI, QlG, QlO, QlV, beq_false]; refine hK1 _ ?_; clear hK1
      (try simp only [QlM, QlU])
      simp -implicitDefEqProofs only [Qd, Qb, Qg, OpW, aop, undef, AS.ev, Qc, Qr, Qk, Ql0, ↓reduceIte, Nat.reduceLT, Nat.reduceEqDiff, QlD, QlE, QlI, QlG, beq_false]
      repeat (first | (with_reducible (first | refine Qn ?_ | refine Qf ?_)) | ((with_reducible refine hK _ ?_); clear hK))
      simp only [QN, Qp, Qu, upd, ↓reduceIte, QlJ, QlN]; first | refine Qe (htake _ _) (.keep (.v _)) ⟨by simp only [resB, d0, d1, Bool.or_true, Bool.true_or], rfl⟩ | refine Qe List.take_length (.keep (.v _)) ⟨by simp only [resB, d0, d1, Bool.or_true, Bool.true_or], rfl⟩
    | false =>
      cases d2 : (s.toList == ({ data := #[102, 97, 105, 108] } : ByteArray).toList) with
      | true =>
        refine Qh Tryz.func94 rfl Tryz.call94 Tryz.ntmps94 (congrArg Array.toList Tryz.results94) (by simp) ?_
        iterate 3 (try (first | (((with_reducible refine Qa fun K E hK hE => ?_)); simp -implicitDefEqProofs only [Qd, Qb, Qg, OpW, aop, AS.ev, Qc, Qr, Nat.reduceLT]) | (with_reducible refine Qi fun K hK => ?_) | ((with_reducible refine hK _ ?_); clear hK)))
        (with_reducible refine Qo fun K E hK hE => ?_)
        (try simp only [Qme]); refine Qz 4 (fun K1 hK1 => ?_); simp -implicitDefEqProofs only [Qd, Qb, Qg, OpW, aop, undef, AS.ev, Qc, QF, Qk, QD, QlK, ↓reduceIte, Nat.reduceLT, Nat.reduceEqDiff, aBin, QlD, QlE, QlF, QlI, QlG, QlO, QlV, QZ, QlL, d0]; refine hK1 _ ?_; clear hK1
        (try simp only [QlM, QlU]); refine Qz 4 (fun K1 hK1 => ?_); simp -implicitDefEqProofs only [Qd, Qb, Qg, OpW, aop, undef, AS.ev, Qc, QF, Qk, QD, QlK, ↓reduceIte, Nat.reduceLT, Nat.reduceEqDiff, aBin, QlD, QlE, QlF, QlI, QlG, QlO, QlV, QZ, QlL, QlH, d1]; refine hK1 _ ?_; clear hK1
        (try simp only [QlM, QlU]); refine Qz 4 (fun K1 hK1 => ?_); simp -implicitDefEqProofs only [Qd, Qb, Qg, OpW, aop, undef, AS.ev, Qc, QF, Qk, Ql0, ↓reduceIte, Nat.reduceLT, Nat.reduceEqDiff, aBin, QlD, QlE, QlF, QlI, QlG, QlO, QlV, QZ, QlL, QlH, beq_false, d2]; refine hK1 _ ?_; clear hK1
        (try simp only [QlM, QlU]); refine Qz 4 (fun K1 hK1 => ?_); simp -implicitDefEqProofs only [Qd, Qb, Qg, OpW, aop, undef, AS.ev, Qc, Qr, Qk, Ql0, ↓reduceIte, Nat.reduceLT, Nat.reduceEqDiff, QlD, QlE, QlI, QlG, QlO, QlV, beq_false]; refine hK1 _ ?_; clear hK1
        (try simp only [QlM, QlU]); refine Qz 4 (fun K1 hK1 => ?_); simp -implicitDefEqProofs only [Qd, Qb, Qg, OpW, aop, undef, AS.ev, Qc, Qr, Qk, Ql0, ↓reduceIte, Nat.reduceLT, Nat.reduceEqDiff, QlD, QlE, QlI, QlG, QlO, QlV, beq_false]; refine hK1 _ ?_; clear hK1
        (try simp only [QlM, QlU])
        simp -implicitDefEqProofs only [Qd, Qb, Qg, OpW, aop, undef, AS.ev, Qc, Qr, Qk, Ql0, ↓reduceIte, Nat.reduceLT, Nat.reduceEqDiff, QlD, QlE, QlI, QlG, beq_false]
        repeat (first | (with_reducible (first | refine Qn ?_ | refine Qf ?_)) | ((with_reducible refine hK _ ?_); clear hK))
        simp only [QN, Qp, Qu, upd, ↓reduceIte, QlJ, QlN]; first | refine Qe (htake _ _) (.keep (.v _)) ⟨by simp only [resB, d0, d1, d2, Bool.or_false, Bool.or_true, Bool.true_or], rfl⟩ | refine Qe List.take_length (.keep (.v _)) ⟨by simp only [resB, d0, d1, d2, Bool.or_false, Bool.or_true, Bool.true_or], rfl⟩
      | false =>
        cases d3 : (s.toList == ({ data := #[105, 115] } : ByteArray).toList) with
        | true =>
          refine Qh Tryz.func94 rfl Tryz.call94 Tryz.ntmps94 (congrArg Array.toList Tryz.results94) (by simp) ?_
          iterate 3 (try (first | (((with_reducible refine Qa fun K E hK hE => ?_)); simp -implicitDefEqProofs only [Qd, Qb, Qg, OpW, aop, AS.ev, Qc, Qr, Nat.reduceLT]) | (with_reducible refine Qi fun K hK => ?_) | ((with_reducible refine hK _ ?_); clear hK)))
          (with_reducible refine Qo fun K E hK hE => ?_)
          (try simp only [Qme]); refine Qz 4 (fun K1 hK1 => ?_); simp -implicitDefEqProofs only [Qd, Qb, Qg, OpW, aop, undef, AS.ev, Qc, QF, Qk, QD, QlK, ↓reduceIte, Nat.reduceLT, Nat.reduceEqDiff, aBin, QlD, QlE, QlF, QlI, QlG, QlO, QlV, QZ, QlL, d0]; refine hK1 _ ?_; clear hK1
          (try simp only [QlM, QlU]); refine Qz 4 (fun K1 hK1 => ?_); simp -implicitDefEqProofs only [Qd, Qb, Qg, OpW, aop, undef, AS.ev, Qc, QF, Qk, QD, QlK, ↓reduceIte, Nat.reduceLT, Nat.reduceEqDiff, aBin, QlD, QlE, QlF, QlI, QlG, QlO, QlV, QZ, QlL, QlH, d1]; refine hK1 _ ?_; clear hK1
          (try simp only [QlM, QlU]); refine Qz 4 (fun K1 hK1 => ?_); simp -implicitDefEqProofs only [Qd, Qb, Qg, OpW, aop, undef, AS.ev, Qc, QF, Qk, QD, QlK, ↓reduceIte, Nat.reduceLT, Nat.reduceEqDiff, aBin, QlD, QlE, QlF, QlI, QlG, QlO, QlV, QZ, QlL, QlH, d2]; refine hK1 _ ?_; clear hK1
          (try simp only [QlM, QlU]); refine Qz 4 (fun K1 hK1 => ?_); simp -implicitDefEqProofs only [Qd, Qb, Qg, OpW, aop, undef, AS.ev, Qc, QF, Qk, Ql0, ↓reduceIte, Nat.reduceLT, Nat.reduceEqDiff, aBin, QlD, QlE, QlF, QlI, QlG, QlO, QlV, QZ, QlL, QlH, beq_false, d3]; refine hK1 _ ?_; clear hK1
          (try simp only [QlM, QlU]); refine Qz 4 (fun K1 hK1 => ?_); simp -implicitDefEqProofs only [Qd, Qb, Qg, OpW, aop, undef, AS.ev, Qc, Qr, Qk, Ql0, ↓reduceIte, Nat.reduceLT, Nat.reduceEqDiff, QlD, QlE, QlI, QlG, QlO, QlV, beq_false]; refine hK1 _ ?_; clear hK1
          (try simp only [QlM, QlU])
          simp -implicitDefEqProofs only [Qd, Qb, Qg, OpW, aop, undef, AS.ev, Qc, Qr, Qk, Ql0, ↓reduceIte, Nat.reduceLT, Nat.reduceEqDiff, QlD, QlE, QlI, QlG, beq_false]
          repeat (first | (with_reducible (first | refine Qn ?_ | refine Qf ?_)) | ((with_reducible refine hK _ ?_); clear hK))
          simp only [QN, Qp, Qu, upd, ↓reduceIte, QlJ, QlN]; first | refine Qe (htake _ _) (.keep (.v _)) ⟨by simp only [resB, d0, d1, d2, d3, Bool.or_false, Bool.or_true, Bool.true_or], rfl⟩ | refine Qe List.take_length (.keep (.v _)) ⟨by simp only [resB, d0, d1, d2, d3, Bool.or_false, Bool.or_true, Bool.true_or], rfl⟩
        | false =>
          cases d4 : (s.toList == ({ data := #[105, 110, 116] } : ByteArray).toList) with
          | true =>
            refine Qh Tryz.func94 rfl Tryz.call94 Tryz.ntmps94 (congrArg Array.toList Tryz.results94) (by simp) ?_
            iterate 3 (try (first | (((with_reducible refine Qa fun K E hK hE => ?_)); simp -implicitDefEqProofs only [Qd, Qb, Qg, OpW, aop, AS.ev, Qc, Qr, Nat.reduceLT]) | (with_reducible refine Qi fun K hK => ?_) | ((with_reducible refine hK _ ?_); clear hK)))
            (with_reducible refine Qo fun K E hK hE => ?_)
            (try simp only [Qme]); refine Qz 4 (fun K1 hK1 => ?_); simp -implicitDefEqProofs only [Qd, Qb, Qg, OpW, aop, undef, AS.ev, Qc, QF, Qk, QD, QlK, ↓reduceIte, Nat.reduceLT, Nat.reduceEqDiff, aBin, QlD, QlE, QlF, QlI, QlG, QlO, QlV, QZ, QlL, d0]; refine hK1 _ ?_; clear hK1
            (try simp only [QlM, QlU]); refine Qz 4 (fun K1 hK1 => ?_); simp -implicitDefEqProofs only [Qd, Qb, Qg, OpW, aop, undef, AS.ev, Qc, QF, Qk, QD, QlK, ↓reduceIte, Nat.reduceLT, Nat.reduceEqDiff, aBin, QlD, QlE, QlF, QlI, QlG, QlO, QlV, QZ, QlL, QlH, d1]; refine hK1 _ ?_; clear hK1
            (try simp only [QlM, QlU]); refine Qz 4 (fun K1 hK1 => ?_); simp -implicitDefEqProofs only [Qd, Qb, Qg, OpW, aop, undef, AS.ev, Qc, QF, Qk, QD, QlK, ↓reduceIte, Nat.reduceLT, Nat.reduceEqDiff, aBin, QlD, QlE, QlF, QlI, QlG, QlO, QlV, QZ, QlL, QlH, d2]; refine hK1 _ ?_; clear hK1
            (try simp only [QlM, QlU]); refine Qz 4 (fun K1 hK1 => ?_); simp -implicitDefEqProofs only [Qd, Qb, Qg, OpW, aop, undef, AS.ev, Qc, QF, Qk, QD, QlK, ↓reduceIte, Nat.reduceLT, Nat.reduceEqDiff, aBin, QlD, QlE, QlF, QlI, QlG, QlO, QlV, QZ, QlL, QlH, d3]; refine hK1 _ ?_; clear hK1
            (try simp only [QlM, QlU]); refine Qz 4 (fun K1 hK1 => ?_); simp -implicitDefEqProofs only [Qd, Qb, Qg, OpW, aop, undef, AS.ev, Qc, QF, Qk, Ql0, ↓reduceIte, Nat.reduceLT, Nat.reduceEqDiff, aBin, QlD, QlE, QlF, QlI, QlG, QlO, QlV, QZ, QlL, QlH, beq_false, d4]; refine hK1 _ ?_; clear hK1
            (try simp only [QlM, QlU])
            simp -implicitDefEqProofs only [Qd, Qb, Qg, OpW, aop, undef, AS.ev, Qc, Qr, Qk, Ql0, ↓reduceIte, Nat.reduceLT, Nat.reduceEqDiff, QlD, QlE, QlI, QlG, beq_false]
            repeat (first | (with_reducible (first | refine Qn ?_ | refine Qf ?_)) | ((with_reducible refine hK _ ?_); clear hK))
            simp only [QN, Qp, Qu, upd, ↓reduceIte, QlJ, QlN]; first | refine Qe (htake _ _) (.keep (.v _)) ⟨by simp only [resB, d0, d1, d2, d3, d4, Bool.or_false, Bool.or_true, Bool.true_or], rfl⟩ | refine Qe List.take_length (.keep (.v _)) ⟨by simp only [resB, d0, d1, d2, d3, d4, Bool.or_false, Bool.or_true, Bool.true_or], rfl⟩
          | false =>
            cases d5 : (s.toList == ({ data := #[103, 114, 111, 117, 110, 100] } : ByteArray).toList) with
            | true =>
              refine Qh Tryz.func94 rfl Tryz.call94 Tryz.ntmps94 (congrArg Array.toList Tryz.results94) (by simp) ?_
              iterate 3 (try (first | (((with_reducible refine Qa fun K E hK hE => ?_)); simp -implicitDefEqProofs only [Qd, Qb, Qg, OpW, aop, AS.ev, Qc, Qr, Nat.reduceLT]) | (with_reducible refine Qi fun K hK => ?_) | ((with_reducible refine hK _ ?_); clear hK)))
              (with_reducible refine Qo fun K E hK hE => ?_)
              (try simp only [Qme]); refine Qz 4 (fun K1 hK1 => ?_); simp -implicitDefEqProofs only [Qd, Qb, Qg, OpW, aop, undef, AS.ev, Qc, QF, Qk, QD, QlK, ↓reduceIte, Nat.reduceLT, Nat.reduceEqDiff, aBin, QlD, QlE, QlF, QlI, QlG, QlO, QlV, QZ, QlL, d0]; refine hK1 _ ?_; clear hK1
              (try simp only [QlM, QlU]); refine Qz 4 (fun K1 hK1 => ?_); simp -implicitDefEqProofs only [Qd, Qb, Qg, OpW, aop, undef, AS.ev, Qc, QF, Qk, QD, QlK, ↓reduceIte, Nat.reduceLT, Nat.reduceEqDiff, aBin, QlD, QlE, QlF, QlI, QlG, QlO, QlV, QZ, QlL, QlH, d1]; refine hK1 _ ?_; clear hK1
              (try simp only [QlM, QlU]); refine Qz 4 (fun K1 hK1 => ?_); simp -implicitDefEqProofs only [Qd, Qb, Qg, OpW, aop, undef, AS.ev, Qc, QF, Qk, QD, QlK, ↓reduceIte, Nat.reduceLT, Nat.reduceEqDiff, aBin, QlD, QlE, QlF, QlI, QlG, QlO, QlV, QZ, QlL, QlH, d2]; refine hK1 _ ?_; clear hK1
              (try simp only [QlM, QlU]); refine Qz 4 (fun K1 hK1 => ?_); simp -implicitDefEqProofs only [Qd, Qb, Qg, OpW, aop, undef, AS.ev, Qc, QF, Qk, QD, QlK, ↓reduceIte, Nat.reduceLT, Nat.reduceEqDiff, aBin, QlD, QlE, QlF, QlI, QlG, QlO, QlV, QZ, QlL, QlH, d3]; refine hK1 _ ?_; clear hK1
              (try simp only [QlM, QlU]); refine Qz 4 (fun K1 hK1 => ?_); simp -implicitDefEqProofs only [Qd, Qb, Qg, OpW, aop, undef, AS.ev, Qc, QF, Qk, QD, QlK, ↓reduceIte, Nat.reduceLT, Nat.reduceEqDiff, aBin, QlD, QlE, QlF, QlI, QlG, QlO, QlV, QZ, QlL, QlH, d4]; refine hK1 _ ?_; clear hK1
              (try simp only [QlM, QlU])
              simp -implicitDefEqProofs only [Qd, Qb, Qg, OpW, aop, AS.ev, Qc, QF, Qk, ↓reduceIte, Nat.reduceLT, Nat.reduceEqDiff, aBin, QlD, QlE, QlF, QlI, QlG, QZ, QlL, QlH, d5]
              repeat (first | (with_reducible (first | refine Qn ?_ | refine Qf ?_)) | ((with_reducible refine hK _ ?_); clear hK))
              simp only [QN, Qp, Qu, upd, ↓reduceIte, QlJ, QlN]; first | refine Qe (htake _ _) (.keep (.v _)) ⟨by simp only [resB, d0, d1, d2, d3, d4, d5, Bool.or_false, Bool.or_true], rfl⟩ | refine Qe List.take_length (.keep (.v _)) ⟨by simp only [resB, d0, d1, d2, d3, d4, d5, Bool.or_false, Bool.or_true], rfl⟩
            | false =>
              refine Qh Tryz.func94 rfl Tryz.call94 Tryz.ntmps94 (congrArg Array.toList Tryz.results94) (by simp) ?_
              iterate 3 (try (first | (((with_reducible refine Qa fun K E hK hE => ?_)); simp -implicitDefEqProofs only [Qd, Qb, Qg, OpW, aop, AS.ev, Qc, Qr, Nat.reduceLT]) | (with_reducible refine Qi fun K hK => ?_) | ((with_reducible refine hK _ ?_); clear hK)))
              (with_reducible refine Qo fun K E hK hE => ?_)
              (try simp only [Qme]); refine Qz 4 (fun K1 hK1 => ?_); simp -implicitDefEqProofs only [Qd, Qb, Qg, OpW, aop, undef, AS.ev, Qc, QF, Qk, QD, QlK, ↓reduceIte, Nat.reduceLT, Nat.reduceEqDiff, aBin, QlD, QlE, QlF, QlI, QlG, QlO, QlV, QZ, QlL, d0]; refine hK1 _ ?_; clear hK1
              (try simp only [QlM, QlU]); refine Qz 4 (fun K1 hK1 => ?_); simp -implicitDefEqProofs only [Qd, Qb, Qg, OpW, aop, undef, AS.ev, Qc, QF, Qk, QD, QlK, ↓reduceIte, Nat.reduceLT, Nat.reduceEqDiff, aBin, QlD, QlE, QlF, QlI, QlG, QlO, QlV, QZ, QlL, QlH, d1]; refine hK1 _ ?_; clear hK1
              (try simp only [QlM, QlU]); refine Qz 4 (fun K1 hK1 => ?_); simp -implicitDefEqProofs only [Qd, Qb, Qg, OpW, aop, undef, AS.ev, Qc, QF, Qk, QD, QlK, ↓reduceIte, Nat.reduceLT, Nat.reduceEqDiff, aBin, QlD, QlE, QlF, QlI, QlG, QlO, QlV, QZ, QlL, QlH, d2]; refine hK1 _ ?_; clear hK1
              (try simp only [QlM, QlU]); refine Qz 4 (fun K1 hK1 => ?_); simp -implicitDefEqProofs only [Qd, Qb, Qg, OpW, aop, undef, AS.ev, Qc, QF, Qk, QD, QlK, ↓reduceIte, Nat.reduceLT, Nat.reduceEqDiff, aBin, QlD, QlE, QlF, QlI, QlG, QlO, QlV, QZ, QlL, QlH, d3]; refine hK1 _ ?_; clear hK1
              (try simp only [QlM, QlU]); refine Qz 4 (fun K1 hK1 => ?_); simp -implicitDefEqProofs only [Qd, Qb, Qg, OpW, aop, undef, AS.ev, Qc, QF, Qk, QD, QlK, ↓reduceIte, Nat.reduceLT, Nat.reduceEqDiff, aBin, QlD, QlE, QlF, QlI, QlG, QlO, QlV, QZ, QlL, QlH, d4]; refine hK1 _ ?_; clear hK1
              (try simp only [QlM, QlU])
              simp -implicitDefEqProofs only [Qd, Qb, Qg, OpW, aop, AS.ev, Qc, QF, Qk, ↓reduceIte, Nat.reduceLT, Nat.reduceEqDiff, aBin, QlD, QlE, QlF, QlI, QlG, QZ, QlL, QlH, d5]
              repeat (first | (with_reducible (first | refine Qn ?_ | refine Qf ?_)) | ((with_reducible refine hK _ ?_); clear hK))
              simp only [QN, Qp, Qu, upd, ↓reduceIte, QlJ, QlN]; first | refine Qe (htake _ _) (.keep (.v _)) ⟨by simp only [resB, d0, d1, d2, d3, d4, d5, Bool.or_false], rfl⟩ | refine Qe List.take_length (.keep (.v _)) ⟨by simp only [resB, d0, d1, d2, d3, d4, d5, Bool.or_false], rfl⟩
end Go.Proofs.YtenheconhibonaaGreatDoor.Ab
set_option maxRecDepth 4000
namespace Go.Proofs.YtenheconhibonaaGreatDoor.Ab
open Go.Proofs
theorem Qhk (s : ByteArray) (k : Nat) : byteAt (s.extract 1 s.size) k = byteAt s (k + 1) := by
  unfold byteAt
  rw [Lib.extract_data, List.take_of_length_le (by rw [List.length_drop, ← Lib.size_eq]; omega), List.getD_eq_getElem?_getD, List.getD_eq_getElem?_getD, List.getElem?_drop, Nat.add_comm 1 k]
theorem QfX (s : ByteArray) : (s.extract 1 s.size).size = s.size - 1 := by
  rw [Lib.size_eq, Lib.extract_data, List.length_take, List.length_drop, ← Lib.size_eq]; omega
def fol (c : Int) : Prop := ofN c ≠ 0
instance (c : Int) : Decidable (fol c) := by unfold fol; infer_instance
theorem QaZ (c : Int) : fol c ↔ (97 ≤ c ∧ c ≤ 122) ∨ (65 ≤ c ∧ c ≤ 90) ∨ c = 95 ∨ (48 ≤ c ∧ c ≤ 57) := by
  unfold fol ofN
  split
  · constructor
    · intro _; omega
    · intro _; decide
  · split
    · constructor
      · intro _; omega
      · intro _; decide
    · split
      · constructor
        · intro _; omega
        · intro _; decide
      · constructor
        · intro h; exact absurd rfl h
        · intro _; omega
def Fol (s : ByteArray) : Prop := ∀ k, k < s.size → fol (byteAt s k)
instance (s : ByteArray) : Decidable (Fol s) := by unfold Fol; infer_instance
theorem QfO (c : Int) : ofN c = 0 ∨ ofN c = 1 ∨ ofN c = 2 ∨ ofN c = 4 := by
  unfold ofN
  repeat' split
  all_goals simp
theorem QiV (r : Int) (hr : 0 ≤ r ∧ r < 2147483648) : Pure Tryz.prog 137 [.v (.int .i32 r)] (.b (decide (122 < r ∨ ¬ fol r))) := by
  intro h
  by_cases h1 : r > 122
  · refine Qh Tryz.func137 rfl Tryz.call137 Tryz.ntmps137 (congrArg Array.toList Tryz.results137) (by simp) ?_
    repeat (first | (((with_reducible refine Qa fun K E hK hE => ?_)); simp -implicitDefEqProofs only [Qd, Qb, Qg, OpW, aop, undef, AS.ev, Qc, Qq, Qr, Qk, QD, QlK, Ql0, ↓reduceIte, Nat.reduceLT, Nat.reduceEqDiff, aBin, QlD, QlE, QlF, QlI, QlG, Q1, Ql9, beq_false, h1]) | (with_reducible refine Qn ?_) | ((with_reducible refine hK _ ?_); clear hK))
    simp only [QN, Qp, Qu, upd, ↓reduceIte, QlJ, QlN]; first | refine Qe (htake _ _) (.keep (.v _)) ⟨by rw [decide_eq_true (.inl h1)], rfl⟩ | refine Qe List.take_length (.keep (.v _)) ⟨by rw [decide_eq_true (.inl h1)], rfl⟩
  · have hcv := Qjj Tryz.prog 21 5 (ts := .int .i32) (kd := .u8) (by kernel_rfl) (by kernel_rfl) .i32
    have w0 : IntKind.u8.wrap r = r := by simp [IntKind.wrap, IntKind.bits, IntKind.signed]; omega
    have c := QiG r (by omega)
    have hf : decide (122 < r ∨ ¬ fol r) = (ofN r == 0) := by
      by_cases h0 : ofN r = 0
      · rw [h0, decide_eq_true (.inr fun h => h h0)]; rfl
      · rw [decide_eq_false (by rintro (h | h); exact h1 h; exact h h0)]; simp [h0]
    have ha : ∀ xo yo a, a = 0 ∨ a = 1 ∨ a = 2 ∨ a = 4 → pv Tryz.prog (do eqGuard .and 146 xo yo (.int .u8 a) (.int .u8 7); binOp .and 146 (.int .u8 a) (.int .u8 7)) = some (.int .u8 a) := by
      rintro xo yo a (rfl | rfl | rfl | rfl) <;> rfl
    have ha' := fun xo yo => ha xo yo (ofN r) (QfO r)
    refine Qh Tryz.func137 rfl Tryz.call137 Tryz.ntmps137 (congrArg Array.toList Tryz.results137) (by simp) ?_
    repeat (first | ((first | (with_reducible (first | refine Qa fun K E hK hE => ?_ | refine Qs c ?_))); simp -implicitDefEqProofs only [Qd, Qb, Qg, OpW, QR, aop, undef, AS.ev, Qc, Qq, Qr, Qk, QD, QlK, ↓reduceIte, Nat.reduceLT, Nat.reduceEqDiff, aBin, QlD, QlE, QlF, QlI, QlG, QlS, QlW, QS, Q1, Qma, QlL, QlH, h1, hcv, w0, ha']) | (with_reducible refine Qn ?_) | ((with_reducible refine hK _ ?_); clear hK))
    simp only [QN, Qp, Qu, upd, ↓reduceIte, QlJ, QlN]; first | refine Qe (htake _ _) (.keep (.v _)) ⟨by rw [hf], rfl⟩ | refine Qe List.take_length (.keep (.v _)) ⟨by rw [hf], rfl⟩
def ixR (s : ByteArray) : Nat → Nat → Int
  | _, 0 => -1
  | p, n + 1 => if fol (byteAt s p) then ixR s (p + 1) n else p
theorem Qjd (s : ByteArray) : ∀ (n p : Nat), ixR s p n < 0 ↔ ∀ k, p ≤ k → k < p + n → fol (byteAt s k)
  | 0, p => by simp only [ixR]; exact ⟨fun _ k h1 h2 => by omega, fun _ => by omega⟩
  | n + 1, p => by
    simp only [ixR]
    split
    · rename_i h
      rw [Qjd s n (p + 1)]
      constructor
      · intro h' k h1 h2
        by_cases hk : k = p
        · rw [hk]; exact h
        · exact h' k (by omega) (by omega)
      · intro h' k h1 h2; exact h' k (by omega) (by omega)
    · rename_i h
      constructor
      · intro h'; omega
      · intro h'; exact absurd (h' p (Nat.le_refl _) (by omega)) h
theorem Qjw (s : ByteArray) (i : Nat) : (Utf8.decode s i).1 < 2147483648 := by
  unfold Utf8.decode
  have hr : Utf8.runeError < 2147483648 := by decide
  have hb : ∀ k, (s.get! k).toNat < 256 := fun k => (s.get! k).toNat_lt
  have b0 := hb (i + 0)
  have b1 := hb (i + 1)
  have b2 := hb (i + 2)
  have b3 := hb (i + 3)
  simp only
  repeat' split
  all_goals first | exact hr | (simp only; omega)
theorem QdZ (b : ByteArray) (hs : b.size ≤ maxLen) : Pure Tryz.prog 158 [.v (.string b), .fn (.func 137) [] [], .b true] (.i (ixR b 0 b.size)) := by
  intro h
  have hbe := fun xo yo a b => Qks Tryz.prog 4 xo yo (by kernel_rfl) a b
  refine Qh Tryz.func158 rfl Tryz.call158 Tryz.ntmps158 (congrArg Array.toList Tryz.results158) (by simp) ?_
  repeat (first | (((with_reducible refine Qa fun K E hK hE => ?_)); simp -implicitDefEqProofs only [Qd, Qb, Qg, OpW, aop, undef, AS.ev, Qc, Qq, Qk, QD, QlK, ↓reduceIte, Nat.reduceLT, Nat.reduceEqDiff, un9]) | (with_reducible (first | refine Qi fun K hK => ?_ | refine Qm ?_)) | ((with_reducible refine hK _ ?_); clear hK))
  obtain ⟨I, hI⟩ : ∃ I : Nat → AS → Prop, I = fun m' s => ∃ (p : Nat), m' = b.size - p ∧ p ≤ b.size ∧ ixR b 0 b.size = ixR b p (b.size - p) ∧ s.tm 1 = .fn (.func 137) [] [] ∧ s.tm 2 = .b true ∧ s.tm 10 = .mp h.length ∧ s.h = h ++ [.iter b p] := ⟨_, rfl⟩; refine Q9 I ?_ (m := b.size) ?_
  · intro m' s hs; rw [hI] at hs; obtain ⟨tm, hp⟩ := s; dsimp only at hs; obtain ⟨p, rfl, hp', he, t1, t2, t10, rfl⟩ := hs
    by_cases hlt : p < b.size
    · have c := QiV ((Utf8.decode b p).1 : Int) ⟨by omega, by have := Qjw b p; omega⟩
      obtain ⟨n, hn⟩ : ∃ n, b.size - p = n + 1 := ⟨b.size - p - 1, by omega⟩
      rw [hn, ixR] at he
      by_cases hf : fol (byteAt b p)
      · rw [if_pos hf] at he
        have hb : byteAt b p < 128 := by have := (QaZ _).1 hf; omega
        obtain ⟨d1, d2⟩ := decode_ascii hb
        have hc : decide (122 < ((Utf8.decode b p).1 : Int) ∨ ¬ fol ((Utf8.decode b p).1 : Int)) = false := by
          rw [d1]
          refine decide_eq_false ?_
          rintro (h1 | h1)
          · have := (QaZ _).1 hf; omega
          · exact h1 hf
        rw [hc] at c
        repeat (first | ((first | (with_reducible (first | refine Qa fun K E hK hE => ?_ | refine Qs c ?_))); simp -implicitDefEqProofs only [Qd, Qb, Qg, OpW, QR, aop, AS.ev, Qc, Qk, ↓reduceIte, Nat.reduceLT, Nat.reduceEqDiff, aBin, Yt, QO, Yg, QlD, QlE, Ql7, QlF, QlS, QlW, goInt, beq_true, Zz, t1, t2, t10, hlt, d2, hbe]) | (with_reducible (first | refine Qi fun K hK => ?_ | refine Qm ?_ | refine Qv ?_ | refine Qf ?_ | refine Qw ?_)) | ((with_reducible refine hK _ ?_); clear hK) | (refine Qj rfl ?_; simp only [↓reduceIte, QlH]))
        refine XD.mk (m' := b.size - (p + 1)) (by omega) ?_
        rw [hI]
        exact ⟨p + 1, rfl, hlt, by rw [he, show n = b.size - (p + 1) by omega], t1, t2, t10, rfl⟩
      · rw [if_neg hf] at he
        have hc : decide (122 < ((Utf8.decode b p).1 : Int) ∨ ¬ fol ((Utf8.decode b p).1 : Int)) = true := by
          refine decide_eq_true ?_
          by_cases hb : byteAt b p < 128
          · right; rw [(decode_ascii hb).1]; exact hf
          · left; have := Qir (s := b) (i := p) (by omega); omega
        rw [hc] at c
        repeat (first | ((first | (with_reducible (first | refine Qa fun K E hK hE => ?_ | refine Qs c ?_))); simp -implicitDefEqProofs only [Qd, Qb, Qg, OpW, QR, aop, AS.ev, Qc, Qk, ↓reduceIte, Nat.reduceLT, Nat.reduceEqDiff, aBin, Yt, QO, Yg, QlD, QlE, Ql7, QlF, QlS, QlW, goInt, QlL, Zz, t1, t2, t10, hlt, hbe]) | (with_reducible (first | refine Qi fun K hK => ?_ | refine Qm ?_ | refine Qn ?_ | refine Qv ?_ | refine Qf ?_ | refine QB ?_ | refine QH ?_)) | ((with_reducible refine hK _ ?_); clear hK) | (refine Qj rfl ?_; simp only [↓reduceIte]))
        simp only [QN, Qp, Qu, upd, ↓reduceIte, QlJ, QlN]; first | refine Qe (htake _ _) (.keep (.v _)) ⟨by rw [he], rfl⟩ | refine Qe List.take_length (.keep (.v _)) ⟨by rw [he], rfl⟩
    · rw [show b.size - p = 0 by omega, ixR] at he
      repeat (first | (((with_reducible refine Qa fun K E hK hE => ?_)); simp -implicitDefEqProofs only [Qd, Qb, Qg, OpW, aop, AS.ev, Qc, Qq, Qk, ↓reduceIte, Nat.reduceLT, Yt, QO, QlD, QlF, Zz, t10, hlt]) | (with_reducible (first | refine Qi fun K hK => ?_ | refine Qn ?_ | refine Q2 ?_ | refine Qf ?_ | refine QU ?_ | refine QV ?_)) | ((with_reducible refine hK _ ?_); clear hK) | (clear hK; (with_reducible refine hK _ ?_); clear hK) | (refine Qj rfl ?_; simp only [↓reduceIte, QlH]))
      simp only [QN, Qp, Qu, upd, ↓reduceIte, QlJ, QlN]; first | refine Qe (htake _ _) (.keep (.v _)) ⟨by rw [he], rfl⟩ | refine Qe List.take_length (.keep (.v _)) ⟨by rw [he], rfl⟩
  · rw [hI]
    exact ⟨0, by omega, Nat.zero_le _, rfl, rfl, rfl, rfl, rfl⟩
theorem Qcp (b : ByteArray) (hs : b.size ≤ maxLen) : Pure Tryz.prog 136 [.v (.string b), .fn (.func 137) [] []] (.i (ixR b 0 b.size)) := by
  intro h
  have c := QdZ b hs
  refine Qh Tryz.func136 rfl Tryz.call136 Tryz.ntmps136 (congrArg Array.toList Tryz.results136) (by simp) ?_
  repeat (first | ((first | (with_reducible (first | refine Qa fun K E hK hE => ?_ | refine Qs c ?_))); simp -implicitDefEqProofs only [Qd, Qb, Qg, OpW, QR, aop, undef, AS.ev, Qc, Qq, Qr, Qk, QD, QlK, Ql3, ↓reduceIte, Nat.reduceLT, Nat.reduceEqDiff, QlS, QlW]) | (with_reducible refine Qn ?_) | ((with_reducible refine hK _ ?_); clear hK))
  simp only [QN, Qp, Qu, upd, ↓reduceIte, QlJ, QlN]; first | refine Qe (htake _ _) (.keep (.v _)) ⟨rfl, rfl⟩ | refine Qe List.take_length (.keep (.v _)) ⟨rfl, rfl⟩
def QbI (first : Int) (s : ByteArray) : Prop := 1 ≤ s.size ∧ s.size ≤ 40 ∧ ofN (byteAt s 0) = first ∧ Fol s
instance (first : Int) (s : ByteArray) : Decidable (QbI first s) := by unfold QbI; infer_instance
theorem Qcn (s : ByteArray) : (s.toList == ({ data := #[] } : ByteArray).toList) = decide (s.size = 0) := by
  rw [Lib.toList_data, Lib.toList_data, Lib.size_eq]
  cases s.data.toList <;> simp
theorem QiI (first : Int) (hf : first = 1 ∨ first = 2) (s : ByteArray) : Pure Tryz.prog 98 [.v (.string s), .v (.int .u8 first)] (.b (decide (QbI first s))) := by
  intro h
  have hsl := fun b => Z4 Tryz.prog 9 3 (by kernel_rfl) b
  by_cases n0 : s.size = 0
  · have d0 : (s.toList == ({ data := #[] } : ByteArray).toList) = true := by rw [Qcn, decide_eq_true n0]
    refine Qh Tryz.func98 rfl Tryz.call98 Tryz.ntmps98 (congrArg Array.toList Tryz.results98) (by simp) ?_
    repeat (first | (((with_reducible refine Qa fun K E hK hE => ?_)); simp -implicitDefEqProofs only [Qd, Qb, Qg, OpW, aop, undef, AS.ev, Qc, Qr, QF, Qk, QD, QlK, Ql0, ↓reduceIte, Nat.reduceLT, Nat.reduceEqDiff, aBin, QlD, QlE, QlF, QlI, QlG, QZ, beq_false, d0]) | (with_reducible (first | refine Qi fun K hK => ?_ | refine Qn ?_ | refine QB ?_)) | ((with_reducible refine hK _ ?_); clear hK) | (refine Qj rfl ?_; simp only [↓reduceIte]))
    simp only [QN, Qp, Qu, upd, ↓reduceIte, QlJ, QlN]; first | refine Qe (htake _ _) (.keep (.v _)) ⟨by rw [decide_eq_false (fun h => by have := h.1; omega)], rfl⟩ | refine Qe List.take_length (.keep (.v _)) ⟨by rw [decide_eq_false (fun h => by have := h.1; omega)], rfl⟩
  · have d0 : (s.toList == ({ data := #[] } : ByteArray).toList) = false := by rw [Qcn, decide_eq_false n0]
    by_cases n1 : s.size ≤ 40
    · have m1 : ¬ ((s.size : Int) > 40) := by omega
      have hix := Qel Tryz.prog 9 (by kernel_rfl) s (by omega)
      have hr := Qid s 0
      have c := QiG (byteAt s 0) hr
      have ha : ∀ xo yo a, a = 0 ∨ a = 1 ∨ a = 2 ∨ a = 4 → pv Tryz.prog (do eqGuard .and 146 xo yo (.int .u8 a) (.int .u8 first); binOp .and 146 (.int .u8 a) (.int .u8 first)) = some (.int .u8 (if a = first then first else 0)) := by
        rcases hf with rfl | rfl <;> rintro xo yo a (rfl | rfl | rfl | rfl) <;> rfl
      have ha' := fun xo yo => ha xo yo (ofN (byteAt s 0)) (QfO _)
      by_cases hc : ofN (byteAt s 0) = first
      · have f0 : (first == 0) = false := by simp; omega
        have hsf := QjK Tryz.prog 9 (by kernel_rfl) s 1 (by omega)
        have hsf' : pv Tryz.prog (Instr.sliceAt 9 (.string s) (some (.int .i64 1)) none none) = some (.string (s.extract 1 s.size)) := hsf
        have ci := Qcp (s.extract 1 s.size) (by rw [QfX]; simp only [maxLen]; omega)
        have hi : decide (ixR (s.extract 1 s.size) 0 (s.extract 1 s.size).size < 0) = decide (QbI first s) := by
          rw [decide_eq_decide, Qjd]
          simp only [QfX, Qhk, QlP]
          constructor
          · intro h1
            refine ⟨by omega, n1, hc, fun k hk => ?_⟩
            cases k with
            | zero => show ofN _ ≠ 0; rw [hc]; omega
            | succ k => exact h1 k (Nat.zero_le _) (by omega)
          · rintro ⟨_, _, _, h4⟩ k _ hk
            exact h4 (k + 1) (by omega)
        rw [if_pos hc] at ha'
        refine Qh Tryz.func98 rfl Tryz.call98 Tryz.ntmps98 (congrArg Array.toList Tryz.results98) (by simp) ?_
        repeat (first | ((first | (with_reducible (first | refine Qa fun K E hK hE => ?_ | refine Qs c ?_ | refine Qs ci ?_))); simp -implicitDefEqProofs only [Qd, Qb, Qg, OpW, QR, aop, undef, AS.ev, Qc, Qq, Qr, QF, Qk, QD, QlK, Ql3, ↓reduceIte, Nat.reduceLT, Nat.reduceEqDiff, aBin, QdQ, aLen, QlD, QlE, QlF, Qmi, QlI, QlG, QlS, QlW, QS, QW, Q1, QZ, goInt, Qma, QlL, QlH, ei9, d0, hsl, m1, hix, ha', f0, hsf']) | (with_reducible (first | refine Qi fun K hK => ?_ | refine Qn ?_ | refine Qv ?_ | refine Qf ?_)) | ((with_reducible refine hK _ ?_); clear hK) | (refine Qj rfl ?_; simp only [↓reduceIte, QlH]))
        simp only [QN, Qp, Qu, upd, ↓reduceIte, QlJ, QlN]; first | refine Qe (htake _ _) (.keep (.v _)) ⟨by rw [hi], rfl⟩ | refine Qe List.take_length (.keep (.v _)) ⟨by rw [hi], rfl⟩
      · rw [if_neg hc] at ha'
        refine Qh Tryz.func98 rfl Tryz.call98 Tryz.ntmps98 (congrArg Array.toList Tryz.results98) (by simp) ?_
        repeat (first | ((first | (with_reducible (first | refine Qa fun K E hK hE => ?_ | refine Qs c ?_))); simp -implicitDefEqProofs only [Qd, Qb, Qg, OpW, QR, aop, undef, AS.ev, Qc, Qq, Qr, QF, Qk, QD, QlK, Ql3, ↓reduceIte, Nat.reduceLT, Nat.reduceEqDiff, aBin, aLen, QlD, QlE, QlF, QlI, QlG, QlS, QlW, QS, Q1, QZ, goInt, Qma, QlL, QlH, d0, hsl, m1, hix, ha']) | (with_reducible (first | refine Qi fun K hK => ?_ | refine Qn ?_ | refine QB ?_)) | ((with_reducible refine hK _ ?_); clear hK) | (refine Qj rfl ?_; simp only [↓reduceIte]))
        simp only [QN, Qp, Qu, upd, ↓reduceIte, QlJ, QlN]; first | refine Qe (htake _ _) (.keep (.v _)) ⟨by rw [decide_eq_false (fun h => hc h.2.2.1)], rfl⟩ | refine Qe List.take_length (.keep (.v _)) ⟨by rw [decide_eq_false (fun h => hc h.2.2.1)], rfl⟩
    · have m1 : ((s.size : Int) > 40) := by omega
      refine Qh Tryz.func98 rfl Tryz.call98 Tryz.ntmps98 (congrArg Array.toList Tryz.results98) (by simp) ?_
      repeat (first | (((with_reducible refine Qa fun K E hK hE => ?_)); simp -implicitDefEqProofs only [Qd, Qb, Qg, OpW, aop, undef, AS.ev, Qc, Qq, Qr, QF, Qk, QD, QlK, Ql0, ↓reduceIte, Nat.reduceLT, Nat.reduceEqDiff, aBin, aLen, QlD, QlE, QlF, QlI, QlG, Q1, QZ, goInt, Ql9, QlL, QlH, beq_false, d0, hsl, m1]) | (with_reducible (first | refine Qi fun K hK => ?_ | refine Qn ?_ | refine QB ?_)) | ((with_reducible refine hK _ ?_); clear hK) | (refine Qj rfl ?_; simp only [↓reduceIte]))
      simp only [QN, Qp, Qu, upd, ↓reduceIte, QlJ, QlN]; first | refine Qe (htake _ _) (.keep (.v _)) ⟨by rw [decide_eq_false (fun h => by have := h.2.1; omega)], rfl⟩ | refine Qe List.take_length (.keep (.v _)) ⟨by rw [decide_eq_false (fun h => by have := h.2.1; omega)], rfl⟩
end Go.Proofs.YtenheconhibonaaGreatDoor.Ab
namespace Go.Proofs
open Go.Shelf
def Tryz.Qli : Go.Shelf.Ren := ⟨fun | 171 => 58 | 243 => 100 | 246 => 138 | 283 => 159 | 284 => 160 | 285 => 161 | 286 => 162 | 129 => 173 | 317 => 172 | 318 => 174 | 319 => 175 | 320 => 176 | 337 => 183 | 338 => 184 | n => n, fun | 3 => 3 | 9 => 9 | 2 => 2 | 4 => 4 | 171 => 204 | 0 => 0 | 53 => 205 | 37 => 72 | 5 => 5 | 173 => 208 | 212 => 216 | 51 => 217 | 20 => 20 | 213 => 218 | 46 => 220 | 232 => 230 | 233 => 231 | n => n, fun | 17 => 0 | 18 => 1 | 19 => 2 | n => n⟩
theorem Tryz.laysM171 : Go.Proofs.LaysM.n171 Tryz.prog Tryz.Qli := {
  mixed := by kernel_rfl
  f129 := Tryz.func173.trans (congrArg some (by kernel_rfl))
  f171 := Tryz.func58.trans (congrArg some (by kernel_rfl))
  f243 := Tryz.func100.trans (congrArg some (by kernel_rfl))
  f246 := Tryz.func138.trans (congrArg some (by kernel_rfl))
  f283 := Tryz.func159.trans (congrArg some (by kernel_rfl))
  f284 := Tryz.func160.trans (congrArg some (by kernel_rfl))
  f285 := Tryz.func161.trans (congrArg some (by kernel_rfl))
  f286 := Tryz.func162.trans (congrArg some (by kernel_rfl))
  f317 := Tryz.func172.trans (congrArg some (by kernel_rfl))
  f318 := Tryz.func174.trans (congrArg some (by kernel_rfl))
  f319 := Tryz.func175.trans (congrArg some (by kernel_rfl))
  f320 := Tryz.func176.trans (congrArg some (by kernel_rfl))
  f337 := Tryz.func183.trans (congrArg some (by kernel_rfl))
  f338 := Tryz.func184.trans (congrArg some (by kernel_rfl))
  t0 := Tryz.underlying0
  a0 := Tryz.isAgg0
  z0 := Tryz.sizeOf0
  v0 := Tryz.zeroValue0
  t2 := Tryz.underlying2
  a2 := Tryz.isAgg2
  z2 := Tryz.sizeOf2
  v2 := Tryz.zeroValue2
  t3 := Tryz.underlying3
  a3 := Tryz.isAgg3
  z3 := Tryz.sizeOf3
  v3 := Tryz.zeroValue3
  t4 := Tryz.underlying4
  a4 := Tryz.isAgg4
  z4 := Tryz.sizeOf4
  v4 := Tryz.zeroValue4
  t5 := Tryz.underlying5
  a5 := Tryz.isAgg5
  z5 := Tryz.sizeOf5
  v5 := Tryz.zeroValue5
  t9 := Tryz.underlying9
  a9 := Tryz.isAgg9
  z9 := Tryz.sizeOf9
  v9 := Tryz.zeroValue9
  t20 := Tryz.underlying20
  a20 := Tryz.isAgg20
  z20 := Tryz.sizeOf20
  v20 := Tryz.zeroValue20
  t37 := Tryz.underlying72
  a37 := Tryz.isAgg72
  z37 := Tryz.sizeOf72
  v37 := Tryz.zeroValue72
  t46 := Tryz.underlying220
  a46 := Tryz.isAgg220
  z46 := Tryz.sizeOf220
  v46 := Tryz.zeroValue220
  t51 := Tryz.underlying217
  a51 := Tryz.isAgg217
  z51 := Tryz.sizeOf217
  v51 := Tryz.zeroValue217
  t53 := Tryz.underlying205
  a53 := Tryz.isAgg205
  z53 := Tryz.sizeOf205
  v53 := Tryz.zeroValue205
  t171 := Tryz.underlying204
  a171 := Tryz.isAgg204
  z171 := Tryz.sizeOf204
  v171 := Tryz.zeroValue204
  t173 := Tryz.underlying208
  a173 := Tryz.isAgg208
  z173 := Tryz.sizeOf208
  v173 := Tryz.zeroValue208
  t212 := Tryz.underlying216
  a212 := Tryz.isAgg216
  z212 := Tryz.sizeOf216
  v212 := Tryz.zeroValue216
  t213 := Tryz.underlying218
  a213 := Tryz.isAgg218
  z213 := Tryz.sizeOf218
  t232 := Tryz.underlying230
  a232 := Tryz.isAgg230
  z232 := Tryz.sizeOf230
  v232 := Tryz.zeroValue230
  t233 := Tryz.underlying231
  a233 := Tryz.isAgg231
  z233 := Tryz.sizeOf231
  v233 := Tryz.zeroValue231
  g17 := by kernel_rfl
  g18 := by kernel_rfl
  g19 := by kernel_rfl
  i0 := by kernel_rfl
  i2 := by kernel_rfl
  i3 := by kernel_rfl
  i4 := by kernel_rfl
  i5 := by kernel_rfl
  i9 := by kernel_rfl
  i20 := by kernel_rfl
  i37 := by kernel_rfl
  i46 := by kernel_rfl
  i51 := by kernel_rfl
  i53 := by kernel_rfl
  i171 := by kernel_rfl
  i173 := by kernel_rfl
  i212 := by kernel_rfl
  i232 := by kernel_rfl
  i233 := by kernel_rfl
  m17 := by kernel_rfl
  m18 := by kernel_rfl
  m19 := by kernel_rfl }
open Go.RowKit Go.Sort Go.Lib in
theorem Tryz.strconv_Itoa (n : Int) (h0 : -9223372036854775808 ≤ n) (h1 : n ≤ 9223372036854775807) (w : World) (htab : Lib.TabIs Tryz.prog w "internal/strconv.uint64pow10" .u64 Lib.pow10Tab) :
    Calls Tryz.prog 58 #[.int .i64 n] w fun e w' => e = .returned (.string ⟨(Lib.itoa n).toArray⟩) ∧ ∃ k os, w' = grow (w.drewN k) os := Any.strconv_Itoa Tryz.laysM171 n h0 h1 w htab
def Tryz.Qll : Go.Shelf.Ren := ⟨fun | 144 => 167 | 143 => 181 | 219 => 190 | 217 => 192 | 225 => 193 | 224 => 194 | 267 => 195 | 266 => 196 | 314 => 197 | n => n, fun | 9 => 9 | 4 => 4 | 3 => 3 | 5 => 5 | 46 => 220 | 146 => 234 | 51 => 217 | n => n, fun | 1 => 4 | n => n⟩
theorem Tryz.lays144 : Go.Proofs.Lays.n144 Tryz.prog Tryz.Qll := {
  mixed := by kernel_rfl
  f143 := Tryz.func181.trans (congrArg some (by kernel_rfl))
  f144 := Tryz.func167.trans (congrArg some (by kernel_rfl))
  f217 := Tryz.func192.trans (congrArg some (by kernel_rfl))
  f219 := Tryz.func190.trans (congrArg some (by kernel_rfl))
  f224 := Tryz.func194.trans (congrArg some (by kernel_rfl))
  f225 := Tryz.func193.trans (congrArg some (by kernel_rfl))
  f266 := Tryz.func196.trans (congrArg some (by kernel_rfl))
  f267 := Tryz.func195.trans (congrArg some (by kernel_rfl))
  f314 := Tryz.func197.trans (congrArg some (by kernel_rfl))
  t3 := Tryz.underlying3
  a3 := Tryz.isAgg3
  z3 := Tryz.sizeOf3
  v3 := Tryz.zeroValue3
  t4 := Tryz.underlying4
  a4 := Tryz.isAgg4
  z4 := Tryz.sizeOf4
  v4 := Tryz.zeroValue4
  t5 := Tryz.underlying5
  a5 := Tryz.isAgg5
  z5 := Tryz.sizeOf5
  v5 := Tryz.zeroValue5
  t9 := Tryz.underlying9
  a9 := Tryz.isAgg9
  z9 := Tryz.sizeOf9
  v9 := Tryz.zeroValue9
  t46 := Tryz.underlying220
  a46 := Tryz.isAgg220
  z46 := Tryz.sizeOf220
  v46 := Tryz.zeroValue220
  t51 := Tryz.underlying217
  a51 := Tryz.isAgg217
  z51 := Tryz.sizeOf217
  v51 := Tryz.zeroValue217
  t146 := Tryz.underlying234
  a146 := Tryz.isAgg234
  z146 := Tryz.sizeOf234
  v146 := Tryz.zeroValue234
  g1 := by kernel_rfl }
theorem Tryz.strings_Contains_one (s : ByteArray) (c : UInt8) (w : World) :
    Calls Tryz.prog 167 #[.string s, .string ⟨#[c]⟩] w fun e w' => e = .returned (.bool (decide (0 ≤ Lib.indexByte s.data.toList c))) ∧ w' = w := Any.strings_Contains_one Tryz.lays144 s c w
end Go.Proofs
namespace Go.Proofs.YtenheconhibonaaGreatDoor.Ab
inductive Alt where
  | done
  | stop
  | alt (i c : Nat) (sub more : Alt)
section
variable (P : Program) (N : Nat) (ops : Array Oper) (K : AS → Prop) (s : AS)
end
theorem Xv {P : Program} {N : Nat} {x y : Code} {Q : AExit → AS → Prop} {s : AS} (J : AS → Prop) (h1 : ∀ s, J s → Zb P N y Q s) (h2 : Zb P N x (AExit.then J Q) s) : Zb P N (.seq x y) Q s := by
  refine Qcb (h2.mono fun e s' hq => ?_)
  cases e with
  | normal => exact h1 s' hq
  | _ => exact hq
end Go.Proofs.YtenheconhibonaaGreatDoor.Ab
set_option maxRecDepth 4000
namespace Go.Proofs.YtenheconhibonaaGreatDoor.Ab
open Go.Proofs
theorem Qbl (s : ByteArray) : Pure Tryz.prog 55 [.v (.string s)] (.b (decide (QbI 1 s) && !resB s)) := by
  intro h
  have c := QiI 1 (.inl rfl) s
  have cr := Qfq s
  cases hw : decide (QbI 1 s) with
  | false =>
    rw [hw] at c
    refine Qh Tryz.func55 rfl Tryz.call55 Tryz.ntmps55 (congrArg Array.toList Tryz.results55) (by simp) ?_
    repeat (first | ((first | (with_reducible (first | refine Qa fun K E hK hE => ?_ | refine Qs c ?_))); simp -implicitDefEqProofs only [Qd, Qb, Qg, OpW, QR, aop, undef, AS.ev, Qc, Qq, Qr, Qk, QD, QlK, ↓reduceIte, Nat.reduceLT, Nat.reduceEqDiff, QlD, QlE, QlI, QlG, QlS, QlW, QlH, beq_true]) | (with_reducible refine Qn ?_) | ((with_reducible refine hK _ ?_); clear hK))
    simp only [QN, Qp, Qu, upd, ↓reduceIte, QlJ, QlN]; first | refine Qe (htake _ _) (.keep (.v _)) ⟨rfl, rfl⟩ | refine Qe List.take_length (.keep (.v _)) ⟨rfl, rfl⟩
  | true =>
    rw [hw] at c
    refine Qh Tryz.func55 rfl Tryz.call55 Tryz.ntmps55 (congrArg Array.toList Tryz.results55) (by simp) ?_
    repeat (first | ((first | (with_reducible (first | refine Qa fun K E hK hE => ?_ | refine Qs c ?_ | refine Qs cr ?_))); simp -implicitDefEqProofs only [Qd, Qb, Qg, OpW, QR, aop, undef, AS.ev, Qc, Qq, Qr, Qk, QD, QlK, ↓reduceIte, Nat.reduceLT, Nat.reduceEqDiff, QlD, QlE, QlF, QlI, QlG, QlS, QlW, Xb, QlL]) | (with_reducible refine Qn ?_) | ((with_reducible refine hK _ ?_); clear hK))
    simp only [QN, Qp, Qu, upd, ↓reduceIte, QlJ, QlN]; first | refine Qe (htake _ _) (.keep (.v _)) ⟨rfl, rfl⟩ | refine Qe List.take_length (.keep (.v _)) ⟨rfl, rfl⟩
theorem QiJ (c : Int) : ofN c = 1 ↔ 97 ≤ c ∧ c ≤ 122 := by
  unfold ofN
  repeat' split
  all_goals (constructor <;> intro _ <;> first | omega | assumption | trivial | contradiction)
def Qab (s : ByteArray) : Prop := 1 ≤ s.size ∧ s.size ≤ 40 ∧ Fol s
instance (s : ByteArray) : Decidable (Qab s) := by unfold Qab; infer_instance
theorem QfQ (b : ByteArray) (hb : b.size ≤ maxLen) : Pure Tryz.prog 92 [.v (.string b)] (.b (decide (Qab b))) := by
  intro h
  have hsl := fun b => Z4 Tryz.prog 9 3 (by kernel_rfl) b
  have hbm : b.size ≤ 9223372036854775807 := hb
  refine Qh Tryz.func92 rfl Tryz.call92 Tryz.ntmps92 (congrArg Array.toList Tryz.results92) (by simp) ?_
  repeat (first | (((with_reducible refine Qa fun K E hK hE => ?_)); simp -implicitDefEqProofs only [Qd, Qb, Qg, OpW, aop, AS.ev, Qc, Qq, Qr, Nat.reduceLT]) | (with_reducible (first | refine Qi fun K hK => ?_ | refine Qm ?_)) | ((with_reducible refine hK _ ?_); clear hK))
  obtain ⟨I, hI⟩ : ∃ I : Nat → AS → Prop, I = fun m' s => ∃ (p : Nat), m' = b.size - p ∧ p ≤ b.size ∧ (∀ k, k < p → fol (byteAt b k)) ∧ s.tm 0 = .v (.string b) ∧ s.tm 3 = .i p ∧ s.h = h := ⟨_, rfl⟩; refine Q9 I ?_ (m := b.size) ?_
  · intro m' s hs; rw [hI] at hs; obtain ⟨tm, hp⟩ := s; dsimp only at hs; obtain ⟨p, rfl, hp', he, t0, t3, rfl⟩ := hs
    by_cases hlt : p < b.size
    · have hix := Qf8 Tryz.prog 9 (by kernel_rfl) b p hlt
      have c1 := Qb7 (byteAt b p)
      have c2 := Qfh (byteAt b p)
      have onw : fol (byteAt b p) → ∀ k, k < p + 1 → fol (byteAt b k) := fun hf k hk => by
        rcases Nat.lt_or_ge k p with h' | h'
        · exact he k h'
        · have : k = p := by omega
          rw [this]; exact hf
      have stop : ¬ fol (byteAt b p) → decide (Qab b) = false := fun hf => decide_eq_false fun h => hf (h.2.2 p hlt)
      iterate 9 (try (first | (((with_reducible refine Qa fun K E hK hE => ?_)); simp -implicitDefEqProofs only [Qd, Qb, Qg, OpW, aop, AS.ev, Qc, Qk, ↓reduceIte, Nat.reduceLT, Nat.reduceEqDiff, aBin, aLen, QlF, QW, goInt, Ql9, Qmr, t0, t3, hsl, hlt]) | (with_reducible (first | refine Qi fun K hK => ?_ | refine Qm ?_ | refine Qv ?_ | refine Qf ?_)) | ((with_reducible refine hK _ ?_); clear hK) | (refine Qj rfl ?_; simp only [↓reduceIte])))
      refine Xv (fun s => s.tm 39 = .b (decide (¬ fol (byteAt b p))) ∧ s.tm 0 = .v (.string b) ∧ s.tm 3 = .i p ∧ s.h = hp) ?_ ?_
      · rintro ⟨tm, hq⟩ ⟨t39, t0, t3, rfl⟩
        dsimp only at t39 t0 t3
        by_cases hf : fol (byteAt b p)
        · rw [decide_eq_false (fun h => h hf)] at t39
          refine Qj (by exact t39) ?_
          simp only [↓reduceIte, QlH]
          repeat (first | (((with_reducible refine Qo fun K E hK hE => ?_)); simp -implicitDefEqProofs only [Qd, Qb, Qg, OpW, aop, AS.ev, Qc, Qq, Qk, ↓reduceIte, Nat.reduceLT, aBin, QlF, Xf, t3]) | (with_reducible (first | refine Qv ?_ | refine Qf ?_ | refine Qw ?_)) | ((with_reducible refine hK _ ?_); clear hK))
          refine XD.mk (m' := b.size - (p + 1)) (by omega) ?_
          rw [hI]
          refine ⟨p + 1, rfl, hlt, onw hf, t0, ?_, rfl⟩
          simp only [upd, ↓reduceIte]
          rw [Xe (by omega)]
        · rw [decide_eq_true hf] at t39
          refine Qj (by exact t39) ?_
          simp only [↓reduceIte]
          repeat (first | (((with_reducible refine Qa fun K E hK hE => ?_)); simp -implicitDefEqProofs only [Qd, Qb, Qg, OpW, aop, AS.ev, Qc, Qr, Nat.reduceLT]) | (with_reducible (first | refine Qn ?_ | refine QB ?_ | refine QH ?_)) | ((with_reducible refine hK _ ?_); clear hK))
          simp only [QN, Qp, Qu, upd, ↓reduceIte, QlJ, QlN]
          exact Qe List.take_length (.keep (.v _)) ⟨by rw [stop hf], rfl⟩
      · refine Qo fun K E hK hE => ?_
        by_cases hl : 97 ≤ byteAt b p ∧ byteAt b p ≤ 122
        · rw [decide_eq_true hl] at c1
          have hv : decide (¬ fol (byteAt b p)) = false := decide_eq_false fun h => h ((QaZ _).2 (.inl hl))
          (try simp only [Qme]); refine Qz 6 (fun K1 hK1 => ?_); simp -implicitDefEqProofs only [Qb, Qg, OpW, aop, AS.ev, Qc, Qk, ↓reduceIte, Nat.reduceLT, Nat.reduceEqDiff, QlF, QlS, QlW, QlO, QlV, t0, t3, hix]; (repeat ((((with_reducible refine Qs c1 ?_)); simp -implicitDefEqProofs only [Qd, Qb, Qg, OpW, QR, aop, AS.ev, Qc, Qk, Ql0, ↓reduceIte, Nat.reduceLT, QlF, Xb]))); refine hK1 _ ?_; clear hK1
          (try simp only [QlM, QlU]); refine Qz 7 (fun K1 hK1 => ?_); simp -implicitDefEqProofs only [Qd, Qb, Qg, OpW, aop, undef, AS.ev, Qc, Qr, Qk, ↓reduceIte, Nat.reduceLT, Nat.reduceEqDiff, QlD, QlE, QlI, QlG, QlO, QlV, QlH, beq_true]; (repeat ((((with_reducible refine Qa fun K E hK hE => ?_)); simp -implicitDefEqProofs only [Qd, Qb, Qg, OpW, QR, aop, undef, YS, Qmj, Qmk, Zh, Yo, YF, AS.ev, Qc, QY, Qq, Qr, QF, Xq, YG, Xt, Xz, Xn, YJ, Qk, QD, QlK, Ql3, AV.Qk5, Qy, Q6, Xs, XY, Xh, XU, Yp, Yk, X0, QM, Xy, XJ, X4, XQ, X2, Yj, Yi, XZ, QlX, QlY, QC, XI, QA, QP, X1, Xc, Xp, Xi, QI, X3, Xm, XX, Yn, Ym, XW, QlZ, Qmm, Qmn, Ql0, Ql1, ↓reduceIte, QlQ, QlR, Nat.reduceAdd, Nat.reduceLT, Nat.reduceLeDiff, Nat.reduceEqDiff, Nat.reduceSub, Nat.reduceMul, QlP, Ql2, Qmc, Qmd, Qmb, Xo, Xr, aBin, aLen, QO, hget, Yg, hset, hlen, happ, QlD, QlE, Qmt, Ql7, Ql8, QlF, Qmi, QlI, Qmh, QlJ, Qme, QlG, QlS, QlW, Ql5, Ql4, Ql6, QlO, QlV, QlM, QlU, XA, QW, X5, Q1, Yl, Xf, Xb, Yc, Qam, Za, goInt, Ql9, Qma, QlL, Qmo, Qmg, Int.toNat_zero, Int.toNat_one, Qmf, Qmr, Qms, Qmp, QlH, Qml, beq_true, beq_false, Nat.reducePow, Nat.zero_le, Nat.zero_mul, T.Qk4, T.Qk6, QE, Xg, ti3, zi3, un3, ti4, zi4, un4, ti5, zi5, un5, ti9, ei9, zi9, un9, Qmq, Int.sub_zero, Zz, Q5, t0, t3, hix]))); refine hK1 _ ?_; clear hK1
          (try simp only [QlM, QlU]); refine Qz 5 (fun K1 hK1 => ?_); simp -implicitDefEqProofs only [Qd, Qb, Qg, undef, Qc, Qk, ↓reduceIte, Nat.reduceLT, Nat.reduceEqDiff, QlD, QlE, QlI, QlG, QlO, QlV, beq_true]; refine hK1 _ ?_; clear hK1
          (try simp only [QlM, QlU]); refine Qz 6 (fun K1 hK1 => ?_); simp -implicitDefEqProofs only [Qd, Qb, Qg, OpW, aop, undef, AS.ev, Qc, Qr, Qk, ↓reduceIte, Nat.reduceLT, Nat.reduceEqDiff, QlD, QlE, QlI, QlG, QlO, QlV, QlH, beq_true]; refine hK1 _ ?_; clear hK1
          (try simp only [QlM, QlU])
          simp -implicitDefEqProofs only [Qd, Qb, Qg, OpW, aop, undef, AS.ev, Qc, Qr, Qk, ↓reduceIte, Nat.reduceLT, Nat.reduceEqDiff, QlD, QlE, QlI, QlG, QlH, beq_true]
          repeat (first | (with_reducible refine Qf ?_) | ((with_reducible refine hK _ ?_); clear hK))
          (try (refine hK _ ?_; rw [Xo]))
          exact ⟨by rw [hv]; rfl, t0, t3, rfl⟩
        · rw [decide_eq_false hl] at c1
          by_cases hu : 65 ≤ byteAt b p ∧ byteAt b p ≤ 90
          · rw [decide_eq_true hu] at c2
            have hv : decide (¬ fol (byteAt b p)) = false := decide_eq_false fun h => h ((QaZ _).2 (.inr (.inl hu)))
            (try simp only [Qme]); refine Qz 6 (fun K1 hK1 => ?_); simp -implicitDefEqProofs only [Qb, Qg, OpW, aop, AS.ev, Qc, Qk, ↓reduceIte, Nat.reduceLT, Nat.reduceEqDiff, QlF, QlS, QlW, QlO, QlV, t0, t3, hix]; (repeat ((((with_reducible refine Qs c1 ?_)); simp -implicitDefEqProofs only [Qd, Qb, Qg, OpW, QR, aop, AS.ev, Qc, Qk, Ql1, ↓reduceIte, Nat.reduceLT, QlF, Xb]))); refine hK1 _ ?_; clear hK1
            (try simp only [QlM, QlU]); refine Qz 7 (fun K1 hK1 => ?_); simp -implicitDefEqProofs only [Qb, Qg, OpW, aop, AS.ev, Qc, Qk, ↓reduceIte, Nat.reduceLT, Nat.reduceEqDiff, QlD, QlE, QlF, QlI, QlG, QlS, QlW, QlO, QlV, QlL, t0, t3, hix]; (repeat ((((with_reducible refine Qs c2 ?_)); simp -implicitDefEqProofs only [Qd, Qb, Qg, OpW, QR, aop, AS.ev, Qc, Qk, Ql0, ↓reduceIte, Nat.reduceLT, Nat.reduceEqDiff, QlD, QlE, QlF, QlI, QlG, Xb, QlL]))); refine hK1 _ ?_; clear hK1
            (try simp only [QlM, QlU]); refine Qz 5 (fun K1 hK1 => ?_); simp -implicitDefEqProofs only [Qd, Qb, Qg, undef, Qc, Qk, ↓reduceIte, Nat.reduceLT, Nat.reduceEqDiff, QlD, QlE, QlI, QlG, QlO, QlV, beq_true]; refine hK1 _ ?_; clear hK1
            (try simp only [QlM, QlU]); refine Qz 6 (fun K1 hK1 => ?_); simp -implicitDefEqProofs only [Qd, Qb, Qg, OpW, aop, undef, AS.ev, Qc, Qr, Qk, ↓reduceIte, Nat.reduceLT, Nat.reduceEqDiff, QlD, QlE, QlI, QlG, QlO, QlV, QlH, beq_true]; refine hK1 _ ?_; clear hK1
            (try simp only [QlM, QlU])
            simp -implicitDefEqProofs only [Qd, Qb, Qg, OpW, aop, undef, AS.ev, Qc, Qr, Qk, ↓reduceIte, Nat.reduceLT, Nat.reduceEqDiff, QlD, QlE, QlI, QlG, QlH, beq_true]
            repeat (first | (with_reducible refine Qf ?_) | ((with_reducible refine hK _ ?_); clear hK))
            (try (refine hK _ ?_; rw [Xo]))
            exact ⟨by rw [hv]; rfl, t0, t3, rfl⟩
          · rw [decide_eq_false hu] at c2
            by_cases d1 : byteAt b p < 48
            · have q' : (byteAt b p != 95) = true := by simp; omega
              have hv : decide (¬ fol (byteAt b p)) = true := decide_eq_true fun hf => by have := (QaZ _).1 hf; omega
              (try simp only [Qme]); refine Qz 6 (fun K1 hK1 => ?_); simp -implicitDefEqProofs only [Qb, Qg, OpW, aop, AS.ev, Qc, Qk, ↓reduceIte, Nat.reduceLT, Nat.reduceEqDiff, QlF, QlS, QlW, QlO, QlV, t0, t3, hix]; (repeat ((((with_reducible refine Qs c1 ?_)); simp -implicitDefEqProofs only [Qd, Qb, Qg, OpW, QR, aop, AS.ev, Qc, Qk, Ql1, ↓reduceIte, Nat.reduceLT, QlF, Xb]))); refine hK1 _ ?_; clear hK1
              (try simp only [QlM, QlU]); refine Qz 7 (fun K1 hK1 => ?_); simp -implicitDefEqProofs only [Qb, Qg, OpW, aop, AS.ev, Qc, Qk, ↓reduceIte, Nat.reduceLT, Nat.reduceEqDiff, QlD, QlE, QlF, QlI, QlG, QlS, QlW, QlO, QlV, QlL, t0, t3, hix]; (repeat ((((with_reducible refine Qs c2 ?_)); simp -implicitDefEqProofs only [Qd, Qb, Qg, OpW, QR, aop, AS.ev, Qc, Qk, Ql1, ↓reduceIte, Nat.reduceLT, Nat.reduceEqDiff, QlD, QlE, QlF, QlI, QlG, Xb, QlL]))); refine hK1 _ ?_; clear hK1
              (try simp only [QlM, QlU]); refine Qz 5 (fun K1 hK1 => ?_); simp -implicitDefEqProofs only [Qd, Qb, Qg, OpW, aop, AS.ev, Qc, Qq, Qk, ↓reduceIte, Nat.reduceLT, Nat.reduceEqDiff, aBin, QlD, QlE, QlF, QlI, QlG, QlO, QlV, QW, Ql9, QlL, t0, t3, hix, d1]; refine hK1 _ ?_; clear hK1
              (try simp only [QlM, QlU]); refine Qz 6 (fun K1 hK1 => ?_); simp -implicitDefEqProofs only [Qd, Qb, Qg, OpW, aop, undef, AS.ev, Qc, Qr, Qk, Ql0, ↓reduceIte, Nat.reduceLT, Nat.reduceEqDiff, QlD, QlE, QlI, QlG, QlO, QlV, QlL, beq_false]; refine hK1 _ ?_; clear hK1
              (try simp only [QlM, QlU])
              simp -implicitDefEqProofs only [Qd, Qb, Qg, OpW, aop, AS.ev, Qc, Qq, Qk, ↓reduceIte, Nat.reduceLT, Nat.reduceEqDiff, aBin, QlD, QlE, QlF, QlI, QlG, XA, QlL, t0, t3, hix, q']
              repeat (first | (with_reducible refine Qf ?_) | ((with_reducible refine hK _ ?_); clear hK))
              (try (refine hK _ ?_; rw [Xo]))
              exact ⟨by rw [hv]; rfl, t0, t3, rfl⟩
            · by_cases d2 : byteAt b p > 57
              · by_cases q : byteAt b p = 95
                · have q' : (byteAt b p != 95) = false := by simp [q]
                  have hv : decide (¬ fol (byteAt b p)) = false := decide_eq_false fun h => h ((QaZ _).2 (.inr (.inr (.inl q))))
                  (try simp only [Qme]); refine Qz 6 (fun K1 hK1 => ?_); simp -implicitDefEqProofs only [Qb, Qg, OpW, aop, AS.ev, Qc, Qk, ↓reduceIte, Nat.reduceLT, Nat.reduceEqDiff, QlF, QlS, QlW, QlO, QlV, t0, t3, hix]; (repeat ((((with_reducible refine Qs c1 ?_)); simp -implicitDefEqProofs only [Qd, Qb, Qg, OpW, QR, aop, AS.ev, Qc, Qk, Ql1, ↓reduceIte, Nat.reduceLT, QlF, Xb]))); refine hK1 _ ?_; clear hK1
                  (try simp only [QlM, QlU]); refine Qz 7 (fun K1 hK1 => ?_); simp -implicitDefEqProofs only [Qb, Qg, OpW, aop, AS.ev, Qc, Qk, ↓reduceIte, Nat.reduceLT, Nat.reduceEqDiff, QlD, QlE, QlF, QlI, QlG, QlS, QlW, QlO, QlV, QlL, t0, t3, hix]; (repeat ((((with_reducible refine Qs c2 ?_)); simp -implicitDefEqProofs only [Qd, Qb, Qg, OpW, QR, aop, AS.ev, Qc, Qk, Ql1, ↓reduceIte, Nat.reduceLT, Nat.reduceEqDiff, QlD, QlE, QlF, QlI, QlG, Xb, QlL]))); refine hK1 _ ?_; clear hK1
                  (try simp only [QlM, QlU]); refine Qz 5 (fun K1 hK1 => ?_); simp -implicitDefEqProofs only [Qd, Qb, Qg, OpW, aop, AS.ev, Qc, Qq, Qk, ↓reduceIte, Nat.reduceLT, Nat.reduceEqDiff, aBin, QlD, QlE, QlF, QlI, QlG, QlO, QlV, QW, Qma, QlL, t0, t3, hix, d1]; refine hK1 _ ?_; clear hK1
                  (try simp only [QlM, QlU]); refine Qz 6 (fun K1 hK1 => ?_); simp -implicitDefEqProofs only [Qd, Qb, Qg, OpW, aop, AS.ev, Qc, Qq, Qk, ↓reduceIte, Nat.reduceLT, Nat.reduceEqDiff, aBin, QlD, QlE, QlF, QlI, QlG, QlO, QlV, Q1, Ql9, QlL, QlH, t0, t3, hix, d2]; refine hK1 _ ?_; clear hK1
                  (try simp only [QlM, QlU])
                  simp -implicitDefEqProofs only [Qd, Qb, Qg, OpW, aop, AS.ev, Qc, Qq, Qk, ↓reduceIte, Nat.reduceLT, Nat.reduceEqDiff, aBin, QlD, QlE, QlF, QlI, QlG, XA, QlL, t0, t3, hix, q']
                  repeat (first | (with_reducible refine Qf ?_) | ((with_reducible refine hK _ ?_); clear hK))
                  (try (refine hK _ ?_; rw [Xo]))
                  exact ⟨by rw [hv]; rfl, t0, t3, rfl⟩
                · have q' : (byteAt b p != 95) = true := by simp [q]
                  have hv : decide (¬ fol (byteAt b p)) = true := decide_eq_true fun hf => by have := (QaZ _).1 hf; omega
                  (try simp only [Qme]); refine Qz 6 (fun K1 hK1 => ?_); simp -implicitDefEqProofs only [Qb, Qg, OpW, aop, AS.ev, Qc, Qk, ↓reduceIte, Nat.reduceLT, Nat.reduceEqDiff, QlF, QlS, QlW, QlO, QlV, t0, t3, hix]; (repeat ((((with_reducible refine Qs c1 ?_)); simp -implicitDefEqProofs only [Qd, Qb, Qg, OpW, QR, aop, AS.ev, Qc, Qk, Ql1, ↓reduceIte, Nat.reduceLT, QlF, Xb]))); refine hK1 _ ?_; clear hK1
                  (try simp only [QlM, QlU]); refine Qz 7 (fun K1 hK1 => ?_); simp -implicitDefEqProofs only [Qb, Qg, OpW, aop, AS.ev, Qc, Qk, ↓reduceIte, Nat.reduceLT, Nat.reduceEqDiff, QlD, QlE, QlF, QlI, QlG, QlS, QlW, QlO, QlV, QlL, t0, t3, hix]; (repeat ((((with_reducible refine Qs c2 ?_)); simp -implicitDefEqProofs only [Qd, Qb, Qg, OpW, QR, aop, AS.ev, Qc, Qk, Ql1, ↓reduceIte, Nat.reduceLT, Nat.reduceEqDiff, QlD, QlE, QlF, QlI, QlG, Xb, QlL]))); refine hK1 _ ?_; clear hK1
                  (try simp only [QlM, QlU]); refine Qz 5 (fun K1 hK1 => ?_); simp -implicitDefEqProofs only [Qd, Qb, Qg, OpW, aop, AS.ev, Qc, Qq, Qk, ↓reduceIte, Nat.reduceLT, Nat.reduceEqDiff, aBin, QlD, QlE, QlF, QlI, QlG, QlO, QlV, QW, Qma, QlL, t0, t3, hix, d1]; refine hK1 _ ?_; clear hK1
                  (try simp only [QlM, QlU]); refine Qz 6 (fun K1 hK1 => ?_); simp -implicitDefEqProofs only [Qd, Qb, Qg, OpW, aop, AS.ev, Qc, Qq, Qk, ↓reduceIte, Nat.reduceLT, Nat.reduceEqDiff, aBin, QlD, QlE, QlF, QlI, QlG, QlO, QlV, Q1, Ql9, QlL, QlH, t0, t3, hix, d2]; refine hK1 _ ?_; clear hK1
                  (try simp only [QlM, QlU])
                  simp -implicitDefEqProofs only [Qd, Qb, Qg, OpW, aop, AS.ev, Qc, Qq, Qk, ↓reduceIte, Nat.reduceLT, Nat.reduceEqDiff, aBin, QlD, QlE, QlF, QlI, QlG, XA, QlL, t0, t3, hix, q']
                  repeat (first | (with_reducible refine Qf ?_) | ((with_reducible refine hK _ ?_); clear hK))
                  (try (refine hK _ ?_; rw [Xo]))
                  exact ⟨by rw [hv]; rfl, t0, t3, rfl⟩
              · skip
                have hv : decide (¬ fol (byteAt b p)) = false := decide_eq_false fun h => h ((QaZ _).2 (.inr (.inr (.inr ⟨by omega, by omega⟩))))
                (try simp only [Qme]); refine Qz 6 (fun K1 hK1 => ?_); simp -implicitDefEqProofs only [Qb, Qg, OpW, aop, AS.ev, Qc, Qk, ↓reduceIte, Nat.reduceLT, Nat.reduceEqDiff, QlF, QlS, QlW, QlO, QlV, t0, t3, hix]; (repeat ((((with_reducible refine Qs c1 ?_)); simp -implicitDefEqProofs only [Qd, Qb, Qg, OpW, QR, aop, AS.ev, Qc, Qk, Ql1, ↓reduceIte, Nat.reduceLT, QlF, Xb]))); refine hK1 _ ?_; clear hK1
                (try simp only [QlM, QlU]); refine Qz 7 (fun K1 hK1 => ?_); simp -implicitDefEqProofs only [Qb, Qg, OpW, aop, AS.ev, Qc, Qk, ↓reduceIte, Nat.reduceLT, Nat.reduceEqDiff, QlD, QlE, QlF, QlI, QlG, QlS, QlW, QlO, QlV, QlL, t0, t3, hix]; (repeat ((((with_reducible refine Qs c2 ?_)); simp -implicitDefEqProofs only [Qd, Qb, Qg, OpW, QR, aop, AS.ev, Qc, Qk, Ql1, ↓reduceIte, Nat.reduceLT, Nat.reduceEqDiff, QlD, QlE, QlF, QlI, QlG, Xb, QlL]))); refine hK1 _ ?_; clear hK1
                (try simp only [QlM, QlU]); refine Qz 5 (fun K1 hK1 => ?_); simp -implicitDefEqProofs only [Qd, Qb, Qg, OpW, aop, AS.ev, Qc, Qq, Qk, ↓reduceIte, Nat.reduceLT, Nat.reduceEqDiff, aBin, QlD, QlE, QlF, QlI, QlG, QlO, QlV, QW, Qma, QlL, t0, t3, hix, d1]; refine hK1 _ ?_; clear hK1
                (try simp only [QlM, QlU]); refine Qz 6 (fun K1 hK1 => ?_); simp -implicitDefEqProofs only [Qd, Qb, Qg, OpW, aop, AS.ev, Qc, Qq, Qk, ↓reduceIte, Nat.reduceLT, Nat.reduceEqDiff, aBin, QlD, QlE, QlF, QlI, QlG, QlO, QlV, Q1, Qma, QlL, QlH, t0, t3, hix, d2]; refine hK1 _ ?_; clear hK1
                (try simp only [QlM, QlU])
                simp -implicitDefEqProofs only [Qd, Qb, Qg, OpW, aop, undef, AS.ev, Qc, Qr, Qk, ↓reduceIte, Nat.reduceLT, Nat.reduceEqDiff, QlD, QlE, QlI, QlG, QlH, beq_true]
                repeat (first | (with_reducible refine Qf ?_) | ((with_reducible refine hK _ ?_); clear hK))
                (try (refine hK _ ?_; rw [Xo]))
                exact ⟨by rw [hv]; rfl, t0, t3, rfl⟩
    · have hpz : p = b.size := by omega
      rw [hpz] at he
      by_cases g1 : (b.size : Int) ≥ 1
      · by_cases g2 : (b.size : Int) ≤ 40
        · repeat (first | (((with_reducible refine Qa fun K E hK hE => ?_)); simp -implicitDefEqProofs only [Qd, Qb, Qg, OpW, aop, AS.ev, Qc, Qq, Qk, ↓reduceIte, Nat.reduceLT, Nat.reduceEqDiff, aBin, aLen, QlD, QlE, QlF, QlI, QlG, QW, X5, Yl, goInt, Ql9, Qma, QlL, Qmr, t0, t3, hsl, hlt, g1, g2]) | (with_reducible (first | refine Qi fun K hK => ?_ | refine Qn ?_ | refine Q2 ?_ | refine Qf ?_ | refine QU ?_ | refine QV ?_)) | ((with_reducible refine hK _ ?_); clear hK) | (clear hK; (with_reducible refine hK _ ?_); clear hK) | (refine Qj rfl ?_; simp only [↓reduceIte, QlH]))
          simp only [QN, Qp, Qu, upd, ↓reduceIte, QlJ, QlN]
          exact Qe List.take_length (.keep (.v _)) ⟨by rw [decide_eq_true (show Qab b from ⟨by omega, by omega, he⟩)], rfl⟩
        · repeat (first | (((with_reducible refine Qa fun K E hK hE => ?_)); simp -implicitDefEqProofs only [Qd, Qb, Qg, OpW, aop, AS.ev, Qc, Qq, Qk, ↓reduceIte, Nat.reduceLT, Nat.reduceEqDiff, aBin, aLen, QlD, QlE, QlF, QlI, QlG, QW, X5, Yl, goInt, Ql9, Qma, QlL, Qmr, t0, t3, hsl, hlt, g1, g2]) | (with_reducible (first | refine Qi fun K hK => ?_ | refine Qn ?_ | refine Q2 ?_ | refine Qf ?_ | refine QU ?_ | refine QV ?_)) | ((with_reducible refine hK _ ?_); clear hK) | (clear hK; (with_reducible refine hK _ ?_); clear hK) | (refine Qj rfl ?_; simp only [↓reduceIte, QlH]))
          simp only [QN, Qp, Qu, upd, ↓reduceIte, QlJ, QlN]
          exact Qe List.take_length (.keep (.v _)) ⟨by rw [decide_eq_false (fun h : Qab b => by have := h.2.1; omega)], rfl⟩
      · repeat (first | (((with_reducible refine Qa fun K E hK hE => ?_)); simp -implicitDefEqProofs only [Qd, Qb, Qg, OpW, aop, undef, AS.ev, Qc, Qq, Qr, Qk, ↓reduceIte, Nat.reduceLT, Nat.reduceEqDiff, aBin, aLen, QlD, QlE, QlF, QlI, QlG, QW, Yl, goInt, Qma, Qmr, QlH, beq_true, t0, t3, hsl, hlt, g1]) | (with_reducible (first | refine Qi fun K hK => ?_ | refine Qn ?_ | refine Q2 ?_ | refine Qf ?_ | refine QU ?_ | refine QV ?_)) | ((with_reducible refine hK _ ?_); clear hK) | (clear hK; (with_reducible refine hK _ ?_); clear hK) | (refine Qj rfl ?_; simp only [↓reduceIte, QlH]))
        simp only [QN, Qp, Qu, upd, ↓reduceIte, QlJ, QlN]
        exact Qe List.take_length (.keep (.v _)) ⟨by rw [decide_eq_false (fun h : Qab b => by have := h.1; omega)], rfl⟩
  · rw [hI]
    exact ⟨0, by omega, Nat.zero_le _, fun k hk => by omega, rfl, rfl, rfl⟩
theorem ZW (s : ByteArray) (hb : s.size ≤ maxLen) : Pure Tryz.prog 44 [.v (.string s)] (.b (decide (QbI 1 s) && !resB s)) := by
  intro h
  have c := QfQ s hb
  have cr := QcZ s
  have cl := Qb7 (byteAt s 0)
  by_cases hw : Qab s
  · rw [decide_eq_true hw] at c
    have hix := Qel Tryz.prog 9 (by kernel_rfl) s (by have := hw.1; omega)
    by_cases hl : 97 ≤ byteAt s 0 ∧ byteAt s 0 ≤ 122
    · rw [decide_eq_true hl] at cl
      have e : decide (QbI 1 s) = true := decide_eq_true ⟨hw.1, hw.2.1, (QiJ _).2 hl, hw.2.2⟩
      refine Qh Tryz.func44 rfl Tryz.call44 Tryz.ntmps44 (congrArg Array.toList Tryz.results44) (by simp) ?_
      repeat (first | ((first | (with_reducible (first | refine Qa fun K E hK hE => ?_ | refine Qs c ?_ | refine Qs cl ?_ | refine Qs cr ?_))); simp -implicitDefEqProofs only [Qd, Qb, Qg, OpW, QR, aop, undef, AS.ev, Qc, Qq, Qr, Qk, QD, QlK, ↓reduceIte, Nat.reduceLT, Nat.reduceEqDiff, QlD, QlE, QlF, QlI, QlG, QlS, QlW, Xb, QlL, hix]) | (with_reducible refine Qn ?_) | ((with_reducible refine hK _ ?_); clear hK))
      simp only [QN, Qp, Qu, upd, ↓reduceIte, QlJ, QlN]; first | refine Qe (htake _ _) (.keep (.v _)) ⟨by rw [e, Bool.true_and], rfl⟩ | refine Qe List.take_length (.keep (.v _)) ⟨by rw [e, Bool.true_and], rfl⟩
    · rw [decide_eq_false hl] at cl
      have e : decide (QbI 1 s) = false := decide_eq_false fun h => hl ((QiJ _).1 h.2.2.1)
      refine Qh Tryz.func44 rfl Tryz.call44 Tryz.ntmps44 (congrArg Array.toList Tryz.results44) (by simp) ?_
      repeat (first | ((first | (with_reducible (first | refine Qa fun K E hK hE => ?_ | refine Qs c ?_ | refine Qs cl ?_))); simp -implicitDefEqProofs only [Qd, Qb, Qg, OpW, QR, aop, undef, AS.ev, Qc, Qq, Qr, Qk, QD, QlK, ↓reduceIte, Nat.reduceLT, Nat.reduceEqDiff, QlD, QlE, QlF, QlI, QlG, QlS, QlW, QlL, QlH, beq_true, hix]) | (with_reducible refine Qn ?_) | ((with_reducible refine hK _ ?_); clear hK))
      simp only [QN, Qp, Qu, upd, ↓reduceIte, QlJ, QlN]; first | refine Qe (htake _ _) (.keep (.v _)) ⟨by rw [e]; rfl, rfl⟩ | refine Qe List.take_length (.keep (.v _)) ⟨by rw [e]; rfl, rfl⟩
  · rw [decide_eq_false hw] at c
    have e : decide (QbI 1 s) = false := decide_eq_false fun h => hw ⟨h.1, h.2.1, h.2.2.2⟩
    refine Qh Tryz.func44 rfl Tryz.call44 Tryz.ntmps44 (congrArg Array.toList Tryz.results44) (by simp) ?_
    repeat (first | ((first | (with_reducible (first | refine Qa fun K E hK hE => ?_ | refine Qs c ?_))); simp -implicitDefEqProofs only [Qd, Qb, Qg, OpW, QR, aop, undef, AS.ev, Qc, Qr, Qk, QD, QlK, ↓reduceIte, Nat.reduceLT, Nat.reduceEqDiff, QlD, QlE, QlI, QlG, QlS, QlW, QlH, beq_true]) | (with_reducible refine Qn ?_) | ((with_reducible refine hK _ ?_); clear hK))
    simp only [QN, Qp, Qu, upd, ↓reduceIte, QlJ, QlN]; first | refine Qe (htake _ _) (.keep (.v _)) ⟨by rw [e]; rfl, rfl⟩ | refine Qe List.take_length (.keep (.v _)) ⟨by rw [e]; rfl, rfl⟩
end Go.Proofs.YtenheconhibonaaGreatDoor.Ab
set_option maxRecDepth 4000
namespace Go.Proofs.YtenheconhibonaaGreatDoor.Ab
open Go.Proofs Go.RowKit
def opB (s : ByteArray) : Bool := (s.toList == ({ data := #[43] } : ByteArray).toList) || (s.toList == ({ data := #[45] } : ByteArray).toList) || (s.toList == ({ data := #[42] } : ByteArray).toList) || (s.toList == ({ data := #[47] } : ByteArray).toList) || (s.toList == ({ data := #[37] } : ByteArray).toList)
theorem QaN (s : ByteArray) : Pure Tryz.prog 171 [.v (.string s)] (.b (opB s)) := by
  intro h
  cases d0 : (s.toList == ({ data := #[43] } : ByteArray).toList) with
  | true =>
    refine Qh Tryz.func171 rfl Tryz.call171 Tryz.ntmps171 (congrArg Array.toList Tryz.results171) (by simp) ?_
    iterate 3 (try (first | (((with_reducible refine Qa fun K E hK hE => ?_)); simp -implicitDefEqProofs only [Qd, Qb, Qg, OpW, aop, AS.ev, Qc, Qr, Nat.reduceLT]) | (with_reducible refine Qi fun K hK => ?_) | ((with_reducible refine hK _ ?_); clear hK)))
    (with_reducible refine Qo fun K E hK hE => ?_)
    (try simp only [Qme]); refine Qz 4 (fun K1 hK1 => ?_); simp -implicitDefEqProofs only [Qd, Qb, Qg, OpW, aop, undef, AS.ev, Qc, QF, Qk, QD, QlK, Ql0, ↓reduceIte, Nat.reduceLT, Nat.reduceEqDiff, aBin, QlD, QlE, QlF, QlI, QlG, QlO, QlV, QZ, beq_false, d0]; refine hK1 _ ?_; clear hK1
    (try simp only [QlM, QlU]); refine Qz 4 (fun K1 hK1 => ?_); simp -implicitDefEqProofs only [Qd, Qb, Qg, OpW, aop, undef, AS.ev, Qc, Qr, Qk, Ql0, ↓reduceIte, Nat.reduceLT, Nat.reduceEqDiff, QlD, QlE, QlI, QlG, QlO, QlV, beq_false]; refine hK1 _ ?_; clear hK1
    (try simp only [QlM, QlU]); refine Qz 4 (fun K1 hK1 => ?_); simp -implicitDefEqProofs only [Qd, Qb, Qg, OpW, aop, undef, AS.ev, Qc, Qr, Qk, Ql0, ↓reduceIte, Nat.reduceLT, Nat.reduceEqDiff, QlD, QlE, QlI, QlG, QlO, QlV, beq_false]; refine hK1 _ ?_; clear hK1
    (try simp only [QlM, QlU]); refine Qz 4 (fun K1 hK1 => ?_); simp -implicitDefEqProofs only [Qd, Qb, Qg, OpW, aop, undef, AS.ev, Qc, Qr, Qk, Ql0, ↓reduceIte, Nat.reduceLT, Nat.reduceEqDiff, QlD, QlE, QlI, QlG, QlO, QlV, beq_false]; refine hK1 _ ?_; clear hK1
    (try simp only [QlM, QlU])
    simp -implicitDefEqProofs only [Qd, Qb, Qg, OpW, aop, undef, AS.ev, Qc, Qr, Qk, Ql0, ↓reduceIte, Nat.reduceLT, Nat.reduceEqDiff, QlD, QlE, QlI, QlG, beq_false]
    repeat (first | (with_reducible (first | refine Qn ?_ | refine Qf ?_)) | ((with_reducible refine hK _ ?_); clear hK))
    simp only [QN, Qp, Qu, upd, ↓reduceIte, QlJ, QlN]; first | refine Qe (htake _ _) (.keep (.v _)) ⟨by simp only [opB, d0, Bool.true_or], rfl⟩ | refine Qe List.take_length (.keep (.v _)) ⟨by simp only [opB, d0, Bool.true_or], rfl⟩
  | false =>
    cases d1 : (s.toList == ({ data := #[45] } : ByteArray).toList) with
    | true =>
      refine Qh Tryz.func171 rfl Tryz.call171 Tryz.ntmps171 (congrArg Array.toList Tryz.results171) (by simp) ?_
      iterate 3 (try (first | (((with_reducible refine Qa fun K E hK hE => ?_)); simp -implicitDefEqProofs only [Qd, Qb, Qg, OpW, aop, AS.ev, Qc, Qr, Nat.reduceLT]) | (with_reducible refine Qi fun K hK => ?_) | ((with_reducible refine hK _ ?_); clear hK)))
      (with_reducible refine Qo fun K E hK hE => ?_)
      (try simp only [Qme]); refine Qz 4 (fun K1 hK1 => ?_); simp -implicitDefEqProofs only [Qd, Qb, Qg, OpW, aop, undef, AS.ev, Qc, QF, Qk, QD, QlK, ↓reduceIte, Nat.reduceLT, Nat.reduceEqDiff, aBin, QlD, QlE, QlF, QlI, QlG, QlO, QlV, QZ, QlL, d0]; refine hK1 _ ?_; clear hK1
      (try simp only [QlM, QlU]); refine Qz 4 (fun K1 hK1 => ?_); simp -implicitDefEqProofs only [Qd, Qb, Qg, OpW, aop, undef, AS.ev, Qc, QF, Qk, Ql0, ↓reduceIte, Nat.reduceLT, Nat.reduceEqDiff, aBin, QlD, QlE, QlF, QlI, QlG, QlO, QlV, QZ, QlL, QlH, beq_false, d1]; refine hK1 _ ?_; clear hK1
      (try simp only [QlM, QlU]); refine Qz 4 (fun K1 hK1 => ?_); simp -implicitDefEqProofs only [Qd, Qb, Qg, OpW, aop, undef, AS.ev, Qc, Qr, Qk, Ql0, ↓reduceIte, Nat.reduceLT, Nat.reduceEqDiff, QlD, QlE, QlI, QlG, QlO, QlV, beq_false]; refine hK1 _ ?_; clear hK1
      (try simp only [QlM, QlU]); refine Qz 4 (fun K1 hK1 => ?_); simp -implicitDefEqProofs only [Qd, Qb, Qg, OpW, aop, undef, AS.ev, Qc, Qr, Qk, Ql0, ↓reduceIte, Nat.reduceLT, Nat.reduceEqDiff, QlD, QlE, QlI, QlG, QlO, QlV, beq_false]; refine hK1 _ ?_; clear hK1
      (try simp only [QlM, QlU])
      simp -implicitDefEqProofs only [Qd, Qb, Qg, OpW, aop, undef, AS.ev, Qc, Qr, Qk, Ql0, ↓reduceIte, Nat.reduceLT, Nat.reduceEqDiff, QlD, QlE, QlI, QlG, beq_false]
      repeat (first | (with_reducible (first | refine Qn ?_ | refine Qf ?_)) | ((with_reducible refine hK _ ?_); clear hK))
      simp only [QN, Qp, Qu, upd, ↓reduceIte, QlJ, QlN]; first | refine Qe (htake _ _) (.keep (.v _)) ⟨by simp only [opB, d0, d1, Bool.or_true, Bool.true_or], rfl⟩ | refine Qe List.take_length (.keep (.v _)) ⟨by simp only [opB, d0, d1, Bool.or_true, Bool.true_or], rfl⟩
    | false =>
      cases d2 : (s.toList == ({ data := #[42] } : ByteArray).toList) with
      | true =>
        refine Qh Tryz.func171 rfl Tryz.call171 Tryz.ntmps171 (congrArg Array.toList Tryz.results171) (by simp) ?_
        iterate 3 (try (first | (((with_reducible refine Qa fun K E hK hE => ?_)); simp -implicitDefEqProofs only [Qd, Qb, Qg, OpW, aop, AS.ev, Qc, Qr, Nat.reduceLT]) | (with_reducible refine Qi fun K hK => ?_) | ((with_reducible refine hK _ ?_); clear hK)))
        (with_reducible refine Qo fun K E hK hE => ?_)
        (try simp only [Qme]); refine Qz 4 (fun K1 hK1 => ?_); simp -implicitDefEqProofs only [Qd, Qb, Qg, OpW, aop, undef, AS.ev, Qc, QF, Qk, QD, QlK, ↓reduceIte, Nat.reduceLT, Nat.reduceEqDiff, aBin, QlD, QlE, QlF, QlI, QlG, QlO, QlV, QZ, QlL, d0]; refine hK1 _ ?_; clear hK1
        (try simp only [QlM, QlU]); refine Qz 4 (fun K1 hK1 => ?_); simp -implicitDefEqProofs only [Qd, Qb, Qg, OpW, aop, undef, AS.ev, Qc, QF, Qk, QD, QlK, ↓reduceIte, Nat.reduceLT, Nat.reduceEqDiff, aBin, QlD, QlE, QlF, QlI, QlG, QlO, QlV, QZ, QlL, QlH, d1]; refine hK1 _ ?_; clear hK1
        (try simp only [QlM, QlU]); refine Qz 4 (fun K1 hK1 => ?_); simp -implicitDefEqProofs only [Qd, Qb, Qg, OpW, aop, undef, AS.ev, Qc, QF, Qk, Ql0, ↓reduceIte, Nat.reduceLT, Nat.reduceEqDiff, aBin, QlD, QlE, QlF, QlI, QlG, QlO, QlV, QZ, QlL, QlH, beq_false, d2]; refine hK1 _ ?_; clear hK1
        (try simp only [QlM, QlU]); refine Qz 4 (fun K1 hK1 => ?_); simp -implicitDefEqProofs only [Qd, Qb, Qg, OpW, aop, undef, AS.ev, Qc, Qr, Qk, Ql0, ↓reduceIte, Nat.reduceLT, Nat.reduceEqDiff, QlD, QlE, QlI, QlG, QlO, QlV, beq_false]; refine hK1 _ ?_; clear hK1
        (try simp only [QlM, QlU])
        simp -implicitDefEqProofs only [Qd, Qb, Qg, OpW, aop, undef, AS.ev, Qc, Qr, Qk, Ql0, ↓reduceIte, Nat.reduceLT, Nat.reduceEqDiff, QlD, QlE, QlI, QlG, beq_false]
        repeat (first | (with_reducible (first | refine Qn ?_ | refine Qf ?_)) | ((with_reducible refine hK _ ?_); clear hK))
        simp only [QN, Qp, Qu, upd, ↓reduceIte, QlJ, QlN]; first | refine Qe (htake _ _) (.keep (.v _)) ⟨by simp only [opB, d0, d1, d2, Bool.or_false, Bool.or_true, Bool.true_or], rfl⟩ | refine Qe List.take_length (.keep (.v _)) ⟨by simp only [opB, d0, d1, d2, Bool.or_false, Bool.or_true, Bool.true_or], rfl⟩
      | false =>
        cases d3 : (s.toList == ({ data := #[47] } : ByteArray).toList) with
        | true =>
          refine Qh Tryz.func171 rfl Tryz.call171 Tryz.ntmps171 (congrArg Array.toList Tryz.results171) (by simp) ?_
          iterate 3 (try (first | (((with_reducible refine Qa fun K E hK hE => ?_)); simp -implicitDefEqProofs only [Qd, Qb, Qg, OpW, aop, AS.ev, Qc, Qr, Nat.reduceLT]) | (with_reducible refine Qi fun K hK => ?_) | ((with_reducible refine hK _ ?_); clear hK)))
          (with_reducible refine Qo fun K E hK hE => ?_)
          (try simp only [Qme]); refine Qz 4 (fun K1 hK1 => ?_); simp -implicitDefEqProofs only [Qd, Qb, Qg, OpW, aop, undef, AS.ev, Qc, QF, Qk, QD, QlK, ↓reduceIte, Nat.reduceLT, Nat.reduceEqDiff, aBin, QlD, QlE, QlF, QlI, QlG, QlO, QlV, QZ, QlL, d0]; refine hK1 _ ?_; clear hK1
          (try simp only [QlM, QlU]); refine Qz 4 (fun K1 hK1 => ?_); simp -implicitDefEqProofs only [Qd, Qb, Qg, OpW, aop, undef, AS.ev, Qc, QF, Qk, QD, QlK, ↓reduceIte, Nat.reduceLT, Nat.reduceEqDiff, aBin, QlD, QlE, QlF, QlI, QlG, QlO, QlV, QZ, QlL, QlH, d1]; refine hK1 _ ?_; clear hK1
          (try simp only [QlM, QlU]); refine Qz 4 (fun K1 hK1 => ?_); simp -implicitDefEqProofs only [Qd, Qb, Qg, OpW, aop, undef, AS.ev, Qc, QF, Qk, QD, QlK, ↓reduceIte, Nat.reduceLT, Nat.reduceEqDiff, aBin, QlD, QlE, QlF, QlI, QlG, QlO, QlV, QZ, QlL, QlH, d2]; refine hK1 _ ?_; clear hK1
          (try simp only [QlM, QlU]); refine Qz 4 (fun K1 hK1 => ?_); simp -implicitDefEqProofs only [Qd, Qb, Qg, OpW, aop, undef, AS.ev, Qc, QF, Qk, Ql0, ↓reduceIte, Nat.reduceLT, Nat.reduceEqDiff, aBin, QlD, QlE, QlF, QlI, QlG, QlO, QlV, QZ, QlL, QlH, beq_false, d3]; refine hK1 _ ?_; clear hK1
          (try simp only [QlM, QlU])
          simp -implicitDefEqProofs only [Qd, Qb, Qg, OpW, aop, undef, AS.ev, Qc, Qr, Qk, Ql0, ↓reduceIte, Nat.reduceLT, Nat.reduceEqDiff, QlD, QlE, QlI, QlG, beq_false]
          repeat (first | (with_reducible (first | refine Qn ?_ | refine Qf ?_)) | ((with_reducible refine hK _ ?_); clear hK))
          simp only [QN, Qp, Qu, upd, ↓reduceIte, QlJ, QlN]; first | refine Qe (htake _ _) (.keep (.v _)) ⟨by simp only [opB, d0, d1, d2, d3, Bool.or_false, Bool.or_true, Bool.true_or], rfl⟩ | refine Qe List.take_length (.keep (.v _)) ⟨by simp only [opB, d0, d1, d2, d3, Bool.or_false, Bool.or_true, Bool.true_or], rfl⟩
        | false =>
          cases d4 : (s.toList == ({ data := #[37] } : ByteArray).toList) with
          | true =>
            refine Qh Tryz.func171 rfl Tryz.call171 Tryz.ntmps171 (congrArg Array.toList Tryz.results171) (by simp) ?_
            iterate 3 (try (first | (((with_reducible refine Qa fun K E hK hE => ?_)); simp -implicitDefEqProofs only [Qd, Qb, Qg, OpW, aop, AS.ev, Qc, Qr, Nat.reduceLT]) | (with_reducible refine Qi fun K hK => ?_) | ((with_reducible refine hK _ ?_); clear hK)))
            (with_reducible refine Qo fun K E hK hE => ?_)
            (try simp only [Qme]); refine Qz 4 (fun K1 hK1 => ?_); simp -implicitDefEqProofs only [Qd, Qb, Qg, OpW, aop, undef, AS.ev, Qc, QF, Qk, QD, QlK, ↓reduceIte, Nat.reduceLT, Nat.reduceEqDiff, aBin, QlD, QlE, QlF, QlI, QlG, QlO, QlV, QZ, QlL, d0]; refine hK1 _ ?_; clear hK1
            (try simp only [QlM, QlU]); refine Qz 4 (fun K1 hK1 => ?_); simp -implicitDefEqProofs only [Qd, Qb, Qg, OpW, aop, undef, AS.ev, Qc, QF, Qk, QD, QlK, ↓reduceIte, Nat.reduceLT, Nat.reduceEqDiff, aBin, QlD, QlE, QlF, QlI, QlG, QlO, QlV, QZ, QlL, QlH, d1]; refine hK1 _ ?_; clear hK1
            (try simp only [QlM, QlU]); refine Qz 4 (fun K1 hK1 => ?_); simp -implicitDefEqProofs only [Qd, Qb, Qg, OpW, aop, undef, AS.ev, Qc, QF, Qk, QD, QlK, ↓reduceIte, Nat.reduceLT, Nat.reduceEqDiff, aBin, QlD, QlE, QlF, QlI, QlG, QlO, QlV, QZ, QlL, QlH, d2]; refine hK1 _ ?_; clear hK1
            (try simp only [QlM, QlU]); refine Qz 4 (fun K1 hK1 => ?_); simp -implicitDefEqProofs only [Qd, Qb, Qg, OpW, aop, undef, AS.ev, Qc, QF, Qk, QD, QlK, ↓reduceIte, Nat.reduceLT, Nat.reduceEqDiff, aBin, QlD, QlE, QlF, QlI, QlG, QlO, QlV, QZ, QlL, QlH, d3]; refine hK1 _ ?_; clear hK1
            (try simp only [QlM, QlU])
            simp -implicitDefEqProofs only [Qd, Qb, Qg, OpW, aop, AS.ev, Qc, QF, Qk, ↓reduceIte, Nat.reduceLT, Nat.reduceEqDiff, aBin, QlD, QlE, QlF, QlI, QlG, QZ, QlL, QlH, d4]
            repeat (first | (with_reducible (first | refine Qn ?_ | refine Qf ?_)) | ((with_reducible refine hK _ ?_); clear hK))
            simp only [QN, Qp, Qu, upd, ↓reduceIte, QlJ, QlN]; first | refine Qe (htake _ _) (.keep (.v _)) ⟨by simp only [opB, d0, d1, d2, d3, d4, Bool.or_false, Bool.or_true], rfl⟩ | refine Qe List.take_length (.keep (.v _)) ⟨by simp only [opB, d0, d1, d2, d3, d4, Bool.or_false, Bool.or_true], rfl⟩
          | false =>
            refine Qh Tryz.func171 rfl Tryz.call171 Tryz.ntmps171 (congrArg Array.toList Tryz.results171) (by simp) ?_
            iterate 3 (try (first | (((with_reducible refine Qa fun K E hK hE => ?_)); simp -implicitDefEqProofs only [Qd, Qb, Qg, OpW, aop, AS.ev, Qc, Qr, Nat.reduceLT]) | (with_reducible refine Qi fun K hK => ?_) | ((with_reducible refine hK _ ?_); clear hK)))
            (with_reducible refine Qo fun K E hK hE => ?_)
            (try simp only [Qme]); refine Qz 4 (fun K1 hK1 => ?_); simp -implicitDefEqProofs only [Qd, Qb, Qg, OpW, aop, undef, AS.ev, Qc, QF, Qk, QD, QlK, ↓reduceIte, Nat.reduceLT, Nat.reduceEqDiff, aBin, QlD, QlE, QlF, QlI, QlG, QlO, QlV, QZ, QlL, d0]; refine hK1 _ ?_; clear hK1
            (try simp only [QlM, QlU]); refine Qz 4 (fun K1 hK1 => ?_); simp -implicitDefEqProofs only [Qd, Qb, Qg, OpW, aop, undef, AS.ev, Qc, QF, Qk, QD, QlK, ↓reduceIte, Nat.reduceLT, Nat.reduceEqDiff, aBin, QlD, QlE, QlF, QlI, QlG, QlO, QlV, QZ, QlL, QlH, d1]; refine hK1 _ ?_; clear hK1
            (try simp only [QlM, QlU]); refine Qz 4 (fun K1 hK1 => ?_); simp -implicitDefEqProofs only [Qd, Qb, Qg, OpW, aop, undef, AS.ev, Qc, QF, Qk, QD, QlK, ↓reduceIte, Nat.reduceLT, Nat.reduceEqDiff, aBin, QlD, QlE, QlF, QlI, QlG, QlO, QlV, QZ, QlL, QlH, d2]; refine hK1 _ ?_; clear hK1
            (try simp only [QlM, QlU]); refine Qz 4 (fun K1 hK1 => ?_); simp -implicitDefEqProofs only [Qd, Qb, Qg, OpW, aop, undef, AS.ev, Qc, QF, Qk, QD, QlK, ↓reduceIte, Nat.reduceLT, Nat.reduceEqDiff, aBin, QlD, QlE, QlF, QlI, QlG, QlO, QlV, QZ, QlL, QlH, d3]; refine hK1 _ ?_; clear hK1
            (try simp only [QlM, QlU])
            simp -implicitDefEqProofs only [Qd, Qb, Qg, OpW, aop, AS.ev, Qc, QF, Qk, ↓reduceIte, Nat.reduceLT, Nat.reduceEqDiff, aBin, QlD, QlE, QlF, QlI, QlG, QZ, QlL, QlH, d4]
            repeat (first | (with_reducible (first | refine Qn ?_ | refine Qf ?_)) | ((with_reducible refine hK _ ?_); clear hK))
            simp only [QN, Qp, Qu, upd, ↓reduceIte, QlJ, QlN]; first | refine Qe (htake _ _) (.keep (.v _)) ⟨by simp only [opB, d0, d1, d2, d3, d4, Bool.or_false], rfl⟩ | refine Qe List.take_length (.keep (.v _)) ⟨by simp only [opB, d0, d1, d2, d3, d4, Bool.or_false], rfl⟩
theorem Qkp : ∀ n : Fin 256, decide (0 ≤ Lib.indexByte [43, 45, 42, 47, 37] (UInt8.ofNat n.val)) = (([UInt8.ofNat n.val] == [43]) || ([UInt8.ofNat n.val] == [45]) || ([UInt8.ofNat n.val] == [42]) || ([UInt8.ofNat n.val] == [47]) || ([UInt8.ofNat n.val] == [37])) := by decide +kernel
theorem QkQ (c : UInt8) : decide (0 ≤ Lib.indexByte [43, 45, 42, 47, 37] c) = opB { data := #[c] } := by
  have := Qkp ⟨c.toNat, c.toNat_lt⟩
  simp only [UInt8.ofNat_toNat] at this
  rw [this, opB]
  simp only [Lib.toList_data]
theorem QeL (c : UInt8) : Pure Tryz.prog 167 [.v (.string { data := #[43, 45, 42, 47, 37] }), .v (.string { data := #[c] })] (.b (opB { data := #[c] })) := by
  rw [← QkQ]
  exact Qj7 (vs := [.string { data := #[43, 45, 42, 47, 37] }, .string { data := #[c] }]) Tryz.call167 fun w => (Tryz.strings_Contains_one _ c w).mono (by rintro e w' ⟨rfl, rfl⟩; exact ⟨_, rfl, Go.RowKit.Below.refl _ _, fun _ => .v _⟩)
theorem one_byte {s : ByteArray} (h : s.size = 1) : ∃ c, s = { data := #[c] } := by
  obtain ⟨⟨l⟩⟩ := s
  match l, h with
  | [c], _ => exact ⟨c, rfl⟩
theorem Qc5 {s : ByteArray} (h : s.size ≠ 1) : opB s = false := by
  have : ∀ c : UInt8, (s.toList == [c]) = false := fun c => by
    rw [Lib.toList_data, beq_eq_false_iff_ne]
    intro e
    exact h (by rw [Lib.size_eq, e]; rfl)
  have t : ∀ c : UInt8, ({ data := #[c] } : ByteArray).toList = [c] := fun c => Lib.toList_data _
  simp only [opB, t, this, Bool.or_false]
theorem Qfg (s : ByteArray) : Pure Tryz.prog 145 [.v (.string s)] (.b (opB s)) := by
  intro h
  have hsl := fun b => Z4 Tryz.prog 9 3 (by kernel_rfl) b
  by_cases n1 : s.size = 1
  · have m1 : ((s.size : Int) == 1) = true := by simp [n1]
    obtain ⟨c, rfl⟩ := one_byte n1
    have cc := QeL c
    refine Qh Tryz.func145 rfl Tryz.call145 Tryz.ntmps145 (congrArg Array.toList Tryz.results145) (by simp) ?_
    repeat (first | ((first | (with_reducible (first | refine Qa fun K E hK hE => ?_ | refine Qs cc ?_))); simp -implicitDefEqProofs only [Qd, Qb, Qg, OpW, QR, aop, undef, AS.ev, Qc, Qq, Qr, QF, Qk, QD, QlK, ↓reduceIte, Nat.reduceLT, Nat.reduceEqDiff, aBin, aLen, QlD, QlE, QlF, QlI, QlG, QlS, QlW, QS, goInt, QlL, hsl, m1]) | (with_reducible refine Qn ?_) | ((with_reducible refine hK _ ?_); clear hK))
    simp only [QN, Qp, Qu, upd, ↓reduceIte, QlJ, QlN]; first | refine Qe (htake _ _) (.keep (.v _)) ⟨rfl, rfl⟩ | refine Qe List.take_length (.keep (.v _)) ⟨rfl, rfl⟩
  · have m1 : ((s.size : Int) == 1) = false := by simp; omega
    refine Qh Tryz.func145 rfl Tryz.call145 Tryz.ntmps145 (congrArg Array.toList Tryz.results145) (by simp) ?_
    repeat (first | (((with_reducible refine Qa fun K E hK hE => ?_)); simp -implicitDefEqProofs only [Qd, Qb, Qg, OpW, aop, undef, AS.ev, Qc, Qq, Qr, Qk, QD, QlK, ↓reduceIte, Nat.reduceLT, Nat.reduceEqDiff, aBin, aLen, QlD, QlE, QlF, QlI, QlG, QS, goInt, QlH, beq_true, hsl, m1]) | (with_reducible refine Qn ?_) | ((with_reducible refine hK _ ?_); clear hK))
    simp only [QN, Qp, Qu, upd, ↓reduceIte, QlJ, QlN]; first | refine Qe (htake _ _) (.keep (.v _)) ⟨by rw [Qc5 n1], rfl⟩ | refine Qe List.take_length (.keep (.v _)) ⟨by rw [Qc5 n1], rfl⟩
def vOf (t : ByteArray) : ByteArray := ({ data := #[86] } : ByteArray) ++ t
theorem Qj3 (n : Int) (h0 : 0 ≤ n) (h1 : n ≤ 1048576) (t : ByteArray) (ht : t.size ≤ 1000) (h : AH) (H : Yd Tryz.prog 58 [.i n] h fun o h' => o = .ret (.v (.string t)) ∧ h' = h) : Yd Tryz.prog 127 [.i n] h fun o h' => o = .ret (.v (.string (vOf t))) ∧ h' = h := by
  have m0 : ¬ n < 0 := by omega
  have m1 : ¬ n > 1048576 := by omega
  have hsa := fun xo yo => Xl Tryz.prog 9 xo yo ({ data := #[86] } : ByteArray) t (by show 1 + t.size ≤ _; omega)
  refine Qh Tryz.func127 rfl Tryz.call127 Tryz.ntmps127 (congrArg Array.toList Tryz.results127) (by simp) ?_
  repeat (first | ((first | (with_reducible (first | refine Qa fun K E hK hE => ?_ | refine FunW.ret (FunW.call H) ?_))); simp -implicitDefEqProofs only [Qd, Qb, Qg, OpW, QR, aop, undef, AS.ev, Qc, Qq, QF, Qk, QD, QlK, ↓reduceIte, Nat.reduceLT, Nat.reduceEqDiff, aBin, QlD, QlE, QlF, QlI, QlG, QlS, QlW, QW, Q1, Qma, QlL, QlH, m0, m1, hsa]) | (with_reducible (first | refine Qi fun K hK => ?_ | refine Qn ?_ | refine Qv ?_ | refine Qf ?_)) | ((with_reducible refine hK _ ?_); clear hK) | (refine Qj rfl ?_; simp only [↓reduceIte, QlH]))
  simp only [QN, Qp, Qu, upd, ↓reduceIte, QlJ, QlN]; first | refine Qe (htake _ _) (.keep (.v _)) ⟨rfl, rfl⟩ | refine Qe List.take_length (.keep (.v _)) ⟨rfl, rfl⟩
end Go.Proofs.YtenheconhibonaaGreatDoor.Ab
namespace Go.Proofs.YtenheconhibonaaGreatDoor.Ab
open Go.ChangeShapes Go.WideShapes Go.ChangeAt Go.RowKit
def base0 (W : World) : Cx := ⟨fun _ => none, [], W⟩
theorem Qh7 {W : World} {B o : Nat} (h : B < W.heap.size) : (base0 W).prot B o := ⟨h, fun id b hb => by simp [base0] at hb⟩
theorem QaD {H : Type} {enc : TypeId × Value → H} {P : Program} (hl : laidOutB P = true) {W W' : World} (hb : Go.RowKit.Below W.heap.size W W') {sp : Nat → Bool} :
    ∀ (ts : List TypeId) (vs : List Value) (ds : List (DataW H)) (ps : List MemPlace), (∀ t ∈ ts, P.readableRec t = true ∧ t < P.types.size) → DataW.TrodAll enc P W 0 (fun _ => true) true ts vs ds ps →
      (∀ x ∈ ps, x.block < W.heap.size ∧ sp x.block = true) → DataW.TrodAll enc P W' 0 sp true ts vs ds ps
  | [], vs, ds, ps, _, h, _ => by
    obtain ⟨rfl, rfl, rfl⟩ := trodAll_nil h
    exact trodAll_mk0
  | t :: ts, vs, ds, ps, hp, h, hlt => by
    obtain ⟨v, vs', d, ds', p, q, rfl, rfl, rfl, h1, h2⟩ := trodAll_cons h
    obtain ⟨h3, h4⟩ := hp t (by simp)
    exact trodAll_cons_mk (WideElems.Trod_stays hl h3 h4 h1 (fun x hx => hb.same (hlt x (by simp [hx])).1) (fun x hx => (hlt x (by simp [hx])).2))
      (QaD hl hb ts vs' ds' q (fun t ht => hp t (by simp [ht])) h2 (fun x hx => hlt x (by simp [hx])))
theorem QcS {H : Type} {enc : TypeId × Value → H} {P : Program} {W : World} {base : Nat} {sp : Nat → Bool} {held : Bool} :
    ∀ {ts : List TypeId} {vs : List Value} {ds : List (DataW H)} {ps : List MemPlace} {ts' : List TypeId} {vs' : List Value} {ds' : List (DataW H)} {ps' : List MemPlace},
      DataW.TrodAll enc P W base sp held ts vs ds ps → DataW.TrodAll enc P W base sp held ts' vs' ds' ps' → DataW.TrodAll enc P W base sp held (ts ++ ts') (vs ++ vs') (ds ++ ds') (ps ++ ps')
  | [], _, _, _, _, _, _, _, h, h' => by
    obtain ⟨rfl, rfl, rfl⟩ := trodAll_nil h
    exact h'
  | t :: ts, _, _, _, _, _, _, _, h, h' => by
    obtain ⟨v, vs', d, ds', p, q, rfl, rfl, rfl, h1, h2⟩ := trodAll_cons h
    have := trodAll_cons_mk h1 (QcS h2 h')
    simpa [List.append_assoc] using this
theorem Qek {H : Type} {enc : TypeId × Value → H} {P : Program} {fn : Func} {s : ChangeSpec} {apart fresh handsOn again : Bool} {W W' : World} {args : Array Value} {ds gs : List (DataW H)} {before : List MemPlace} {tb : TypeId}
    (hl : laidOutB P = true) (hvars : s.vars = []) (hr : fn.resultTypes = #[tb]) (hb : P.underlying tb = some .bool) (hp : ∀ t ∈ fn.params.toList, P.readableRec t = true ∧ t < P.types.size)
    (hW : DataW.Whole enc P fn.params.toList s.vars apart W args.toList ds gs before) (hs : s.fn H (ds ++ gs) = { results := [.lit (.bool true)], args := ds }) (hbel : Go.RowKit.Below W.heap.size W W') :
    s.post enc P fn apart fresh handsOn again W args (.bool true) W' := by
  have hlt : ∀ x ∈ before, x.block < W.heap.size := fun x hx => by simpa using hW.lt x hx
  have hW0 := hW
  obtain ⟨p, q, hA, hV, rfl, hfz, hnd⟩ := hW
  rw [hvars] at hV
  have hV0 := hV
  obtain ⟨rfl, rfl⟩ := trodVars_none hV
  simp only [Ql6] at hlt hfz hnd hW0 hs
  have hres : ∀ (b : Nat) (sp : Nat → Bool) (hd : Bool), DataW.TrodAll enc P W' b sp hd fn.resultTypes.toList ((Value.bool true).resultList fn.resultTypes.size) [.lit (.bool true)] [] := fun b sp hd => by
    rw [hr]
    exact trodAll_mk1 (shut_bool hb true)
  have hvs : ∀ sp : Nat → Bool, DataW.TrodVars enc P W' sp s.vars [] [] := fun sp => by rw [hvars]; rfl
  refine ⟨ds, [], p, [], p, [], by simpa using hW0, ?_, ?_, ?_, ?_, fun _ => ⟨?_, ?_⟩⟩
  · rw [List.append_nil, hs]; exact hres _ _ _
  · rw [List.append_nil, hs]
    exact QaD hl hbel _ _ _ _ hp hA fun x hx => ⟨hlt x hx, by simpa using hlt x hx⟩
  · rw [List.append_nil, hs]; exact hvs _
  · exact hbel.frame _
  · intro j t r hj hv
    rw [hr] at hj hv
    match j, hj, hv with
    | 0, hj, hv =>
      simp only [QlG, QlD, QlJ] at hj
      have hv' : r = .bool true := by
        have : (some (Value.bool true)) = some r := hv
        cases this; rfl
      subst hj; subst hv'
      exact okWide_bool_mk hb true
    | j + 1, hj, hv => simp at hj
  · have hA' := QaD (sp := fun _ => true) hl hbel _ _ _ _ hp hA fun x hx => ⟨hlt x hx, rfl⟩
    refine ⟨_, [], [] ++ p, ⟨[] ++ p, [], QcS (hres 0 _ true) hA', hvs _, by simp, ?_, ?_⟩, ?_⟩
    · intro b off hm
      have hm' : MemPlace.cell b off ∈ p := by simpa using hm
      exact (hbel.frozen (p := ⟨b, off, none⟩) (hlt _ hm')).trans (hfz b off hm')
    · intro ha
      simpa using hnd ha
    · intro x hx _
      simpa using hx
theorem QgO {P : Program} {w : World} {r : Reach} {b : Nat} {t e : TypeId} {v : Value} (ht : P.underlying t = some (.slice e)) (hv : Value.okWide P w r b t v) : v.cells.toList = [v] := by
  cases v with
  | agg cs => simp [Value.okWide, ht, Cell.okWide, Cell.ok] at hv
  | _ => rfl
theorem Qgo {P : Program} {w : World} {r : Reach} {b : Nat} {t : TypeId} {fs : Array Field} {v : Value} (ht : P.underlying t = some (.struct fs)) (hv : Value.okWide P w r b t v) : ∃ cs, v = .agg cs := by
  simp only [Value.okWide, ht] at hv
  obtain ⟨cs, rfl, _⟩ := hv
  exact ⟨cs, rfl⟩
def Reads (W : World) (a : AV) (cs : List Value) : Prop := cs.length = a.cells.length ∧ ∀ (j : Nat) x u, a.cells[j]? = some x → cs[j]? = some u → Rel (base0 W) x u ∧ u.oneCell' = true
theorem Qgw {w : World} {a : Addr} {u : Value} (h : w.cell? a = some u) : a.block < w.heap.size ∧ a.spot = none := by
  unfold World.cell? at h
  cases hb : w.heap[a.block]? with
  | none => simp [hb] at h
  | some o =>
    rw [hb] at h
    refine ⟨(Array.getElem?_eq_some_iff.1 hb).1, ?_⟩
    cases o with
    | cells c _ _ =>
      simp only at h
      split at h
      · cases h
      · rename_i hs
        cases hsp : a.spot with
        | none => rfl
        | some q => rw [hsp] at hs; simp at hs
    | _ => cases h
theorem Y8 {H : Type} {enc : TypeId × Value → H} {P : Program} {W : World} {t e : TypeId} {s fuel : Nat} {cs : List Value} {y : DataW H × List MemPlace} {X : Type} {val : X → AV} {Good : X → Prop}
    (ht : P.underlying t = some (.slice e)) (hs : P.cellsOf e = s) (hpos : 0 < s) (hval : ∀ x, (val x).cells.length = s)
    (rd : ∀ n cs y, n < fuel → DataW.trod enc P W 0 (fun _ => true) true n e cs = some y → ∃ x : X, Good x ∧ Reads W (val x) cs)
    (h : DataW.trod enc P W 0 (fun _ => true) true fuel t cs = some y) : ∃ (xs : List X) (u : Value), (∀ x ∈ xs, Good x) ∧ cs = [u] ∧ u.oneCell' = true ∧ Rel (base0 W) (.sl s (xs.map val) none) u := by
  rcases DataW.trod_slice ht h with ⟨rfl, _⟩ | ⟨a, len, cap, elems, rest, n, rfl, rfl, _, _, hlc, hcm, hlen, hel, hsp, _⟩
  · exact ⟨[], _, (by simp), rfl, rfl, .slnil s none fun b hb => by cases hb⟩
  · have each : ∀ i, i < len → ∃ x : X, Good x ∧ ∃ cs, W.cells? 0 (a.add (i * s)) s = some cs ∧ Reads W (val x) cs := by
      intro i hi
      have h1 := hel i hi
      rw [List.getElem?_eq_getElem (by omega), hs, Option.bind_eq_some_iff] at h1
      obtain ⟨cs, h2, h3⟩ := h1
      obtain ⟨x, hx1, hx2⟩ := rd n cs _ (Nat.lt_succ_self n) h3
      exact ⟨x, hx1, cs, h2, hx2⟩
    obtain ⟨xs, hxl, hxs⟩ : ∃ xs : List X, xs.length = len ∧ ∀ i (hi : i < xs.length), Good xs[i] ∧ ∃ cs, W.cells? 0 (a.add (i * s)) s = some cs ∧ Reads W (val xs[i]) cs := by
      have : ∀ m, m ≤ len → ∃ xs : List X, xs.length = m ∧ ∀ i (hi : i < xs.length), Good xs[i] ∧ ∃ cs, W.cells? 0 (a.add (i * s)) s = some cs ∧ Reads W (val xs[i]) cs := by
        intro m
        induction m with
        | zero => exact fun _ => ⟨[], rfl, fun i hi => by simp at hi⟩
        | succ m ih =>
          intro hm
          obtain ⟨xs, hl, hx⟩ := ih (by omega)
          obtain ⟨x, hg, hr⟩ := each m (by omega)
          refine ⟨xs ++ [x], by simp [hl], fun i hi => ?_⟩
          by_cases hi' : i < xs.length
          · rw [List.getElem_append_left hi']; exact hx i hi'
          · have e : i = m := by simp at hi; omega
            subst e
            have hxe : (xs ++ [x])[i] = x := by simp [← hl]
            rw [hxe]
            exact ⟨hg, hr⟩
      exact this len (Nat.le_refl _)
    have hgood : ∀ x ∈ xs, Good x := fun x hx => by
      obtain ⟨i, hi, rfl⟩ := List.getElem_of_mem hx
      exact (hxs i hi).1
    by_cases hcap : cap = 0
    · have hl0 : len = 0 := by omega
      subst hcap; subst hl0
      have : xs = [] := List.length_eq_zero_iff.1 hxl
      subst this
      exact ⟨[], _, (by simp), rfl, rfl, .slzero s none a fun b hb => by cases hb⟩
    · have hspot : a.spot = none := by
        have key : W.cells? 0 (a.add (0 * s)) s ≠ none → a.spot = none := by
          intro hk
          cases hc : W.cells? 0 (a.add (0 * s)) s with
          | none => exact absurd hc hk
          | some cs =>
            obtain ⟨_, hl, hcell⟩ := World.cells?_some hc
            have := hcell 0 hpos
            rw [List.getElem?_eq_getElem (by omega)] at this
            have := (Qgw this).2
            simpa [Addr.add] using this
        by_cases hl : 0 < len
        · refine key fun hn => ?_
          have := hel 0 hl
          rw [hs, hn, List.getElem?_eq_getElem (by omega)] at this
          simp at this
        · obtain ⟨hrl, hr⟩ := hsp rfl
          refine key fun hn => ?_
          have := hr 0 (by omega)
          rw [show len + 0 = 0 by omega, hs, hn, List.getElem?_eq_getElem (by omega)] at this
          simp at this
      have ha : a = ⟨a.block, a.off, none⟩ := by cases a; simp only at hspot; subst hspot; rfl
      have hvs : ∀ x ∈ xs.map val, x.cells.length = s := fun x hx => by
        obtain ⟨z, _, rfl⟩ := List.mem_map.1 hx
        exact hval z
      have hflat : ∀ (j : Nat) (v : AV), (flat (xs.map val))[j]? = some v → ∃ (i : Nat) (hi : i < xs.length) (k : Nat), k < s ∧ j = i * s + k ∧ (val xs[i]).cells[k]? = some v := by
        intro j v hj
        have hlt := QT hj
        rw [flat_length hvs, List.length_map] at hlt
        have hi : j / s < xs.length := by rw [Nat.div_lt_iff_lt_mul hpos]; exact hlt
        have hdm := Nat.div_add_mod j s
        have hml := Nat.mod_lt j hpos
        refine ⟨j / s, hi, j % s, hml, by rw [Nat.mul_comm]; exact hdm.symm, ?_⟩
        obtain ⟨v', hv'⟩ : ∃ v', (val (xs[j / s]'hi)).cells[j % s]? = some v' := ⟨_, List.getElem?_eq_getElem (by rw [hval]; exact hml)⟩
        have := flat_get hvs (k := j / s) (x := val (xs[j / s]'hi)) (by rw [List.getElem?_map, List.getElem?_eq_getElem hi]; rfl) hv'
        rw [show j / s * s + j % s = j by rw [Nat.mul_comm]; exact hdm, hj] at this
        rw [hv', this]
      have hcell : ∀ (j : Nat) (v : AV), (flat (xs.map val))[j]? = some v → ∃ u, W.cell? ⟨a.block, a.off + j, none⟩ = some u ∧ Rel (base0 W) v u ∧ u.oneCell' = true := by
        intro j v hj
        obtain ⟨i, hi, k, hk, rfl, hv⟩ := hflat j v hj
        obtain ⟨_, cs, hcs, hrd⟩ := hxs i hi
        obtain ⟨_, hl, hc⟩ := World.cells?_some hcs
        obtain ⟨u, hu⟩ : ∃ u, cs[k]? = some u := ⟨_, List.getElem?_eq_getElem (by omega)⟩
        have h1 := hc k hk
        rw [hu] at h1
        obtain ⟨h2, h3⟩ := hrd.2 k v u hv hu
        refine ⟨u, ?_, h2, h3⟩
        have e : (a.add (i * s)).add k = ⟨a.block, a.off + (i * s + k), none⟩ := by
          rw [ha, addr_add, addr_add, Nat.add_assoc]
        rw [← e]
        exact h1
      refine ⟨xs, _, hgood, rfl, rfl, ?_⟩
      have hsl := Rel.sl (c := base0 W) s (xs.map val) none a.block a.off cap (fun j => (W.cell? ⟨a.block, a.off + j, none⟩).getD undef) hvs (by rw [List.length_map]; omega) hcm
        (fun j v hj => by
          obtain ⟨u, h1, h2, h3⟩ := hcell j v hj
          rw [h1]
          exact ⟨⟨h1, Qh7 (Qgw h1).1⟩, h3⟩)
        (fun j v hj => by
          obtain ⟨u, h1, h2, h3⟩ := hcell j v hj
          rw [h1]
          exact h2)
        (fun b hb => by cases hb)
      rw [List.length_map, hxl, ← ha] at hsl
      exact hsl
theorem Qhn (c : Cx) : RelL c [] #[] := ⟨rfl, fun j a u h => by simp at h⟩
theorem QdD {c : Cx} {a : AV} {asx : List AV} {u : Value} {us : List Value} (h : Rel c a u) (hs : RelL c asx us.toArray) : RelL c (a :: asx) (u :: us).toArray := by
  refine ⟨by have := hs.1; simp at this ⊢; exact this, fun j x v hx hv => ?_⟩
  cases j with
  | zero => simp at hx hv; subst hx; subst hv; exact h
  | succ j => exact hs.2 j x v (by simpa using hx) (by simpa using hv)
theorem Qit {W : World} {l : List AV} {cs : Array Value} (h : Reads W (.agg l) cs.toList) : Rel (base0 W) (.agg l) (.agg cs) :=
  .agg l cs (by have := h.1; simpa [AV.cells] using this) fun j a u ha hu => (h.2 j a u ha (by simpa using hu)).1
theorem QhF {H : Type} {enc : TypeId × Value → H} {P : Program} {W : World} {r : Reach} {b0 : Nat} {t : TypeId} {fs : Array Field} {v : Value} {d : DataW H} {ps : List MemPlace} {X : Type} {val : X → AV} {Good : X → Prop}
    (ht : P.underlying t = some (.struct fs)) (hv : Value.okWide P W r b0 t v) (hd : DataW.Trod enc P W 0 (fun _ => true) true t v d ps) (hval : ∀ x, ∃ l, val x = .agg l)
    (rd : ∀ fuel cs y, DataW.trod enc P W 0 (fun _ => true) true fuel t cs = some y → ∃ x : X, Good x ∧ Reads W (val x) cs) : ∃ x : X, Good x ∧ Rel (base0 W) (val x) v := by
  obtain ⟨cs, rfl⟩ := Qgo ht hv
  obtain ⟨fuel, hf⟩ := hd
  obtain ⟨x, hg, hr⟩ := rd fuel _ _ hf
  obtain ⟨l, hl⟩ := hval x
  refine ⟨x, hg, ?_⟩
  rw [hl] at hr ⊢
  exact Qit hr
theorem Qjc {H : Type} {enc : TypeId × Value → H} {P : Program} {W : World} {r : Reach} {b0 : Nat} {t e : TypeId} {s : Nat} {v : Value} {d : DataW H} {ps : List MemPlace} {X : Type} {val : X → AV} {Good : X → Prop}
    (ht : P.underlying t = some (.slice e)) (hs : P.cellsOf e = s) (hpos : 0 < s) (hval : ∀ x, (val x).cells.length = s) (hv : Value.okWide P W r b0 t v) (hd : DataW.Trod enc P W 0 (fun _ => true) true t v d ps)
    (rd : ∀ fuel cs y, DataW.trod enc P W 0 (fun _ => true) true fuel e cs = some y → ∃ x : X, Good x ∧ Reads W (val x) cs) : ∃ xs : List X, (∀ x ∈ xs, Good x) ∧ Rel (base0 W) (.sl s (xs.map val) none) v := by
  obtain ⟨fuel, hf⟩ := hd
  rw [QgO ht hv] at hf
  obtain ⟨xs, u, h1, h2, _, h3⟩ := Y8 ht hs hpos hval (fun n cs y _ h => rd n cs y h) hf
  cases h2
  exact ⟨xs, h1, h3⟩
theorem Xx {α : Type} {n : Nat} : ∀ {l : List α}, l.length = n + 1 → ∃ a l', l = a :: l' ∧ l'.length = n
  | a :: l, h => ⟨a, l, rfl, by simpa using h⟩
theorem len_nil {α : Type} {l : List α} (h : l.length = 0) : l = [] := List.length_eq_zero_iff.1 h
end Go.Proofs.YtenheconhibonaaGreatDoor.Ab
namespace Go.Proofs.YtenheconhibonaaGreatDoor.Ab
open Go.RowKit
def HasG (h : AH) (g : Nat) (cs : Array Value) : Prop := ∃ (i : Nat) (ty : TypeId) (fr : Nat × Nat), h[i]? = some (.glob g cs ty fr)
theorem HasG.app {h : AH} {g : Nat} {cs : Array Value} (H : HasG h g cs) (l : AH) : HasG (h ++ l) g cs := let ⟨i, ty, fr, e⟩ := H; ⟨i, ty, fr, hext e l⟩
theorem HasG.world {c : Cx} (hst : St c) {g : Nat} {cs : Array Value} (H : HasG c.h g cs) : ∃ ty fr, c.w.heap[g]? = some (.cells cs ty fr) :=
  let ⟨i, ty, fr, e⟩ := H; ⟨ty, fr, (hst.blocks i _ e).2⟩
theorem HasG.var {P : Program} {c : Cx} (hst : St c) {g : Nat} {cs : Array Value} (H : HasG c.h g cs) {nm : String} (hn : P.globalNamed nm = some g) : c.w.var? P nm = some cs := by
  obtain ⟨ty, fr, e⟩ := H.world hst
  simp only [World.var?, hn, QlI, e]
theorem HasG.kin {c c' : Cx} (hev : Ev c c') {g : Nat} {cs : Array Value} (H : HasG c.h g cs) : HasG c'.h g cs := by
  obtain ⟨i, ty, fr, e⟩ := H
  obtain ⟨b', hb, hk⟩ := hev.kin i _ e
  simp only [Kin] at hk
  obtain ⟨rfl, _⟩ := hk
  exact ⟨i, ty, fr, hb⟩
structure GV where
  g : Nat
  cs : Array Value
  ty : TypeId
  fr : Nat × Nat
def GV.blk (x : GV) : AB := .glob x.g x.cs x.ty x.fr
def Qdi (W : World) (gs : List GV) : Cx := ⟨fun id => (gs[id]?).map (·.g), gs.map GV.blk, W⟩
theorem QaV {W : World} {gs : List GV} {id : Nat} {b : AB} (h : (Qdi W gs).h[id]? = some b) : ∃ x, gs[id]? = some x ∧ b = x.blk ∧ (Qdi W gs).ρ id = some x.g := by
  simp only [Qdi, List.getElem?_map, Option.map_eq_some_iff] at h ⊢
  obtain ⟨x, hx, rfl⟩ := h
  exact ⟨x, hx, rfl, x, hx, rfl⟩
theorem Qjb {l : List Nat} (hn : l.Nodup) {i j a : Nat} (hi : l[i]? = some a) (hj : l[j]? = some a) : i = j := by
  have hp := List.pairwise_iff_getElem.1 hn
  obtain ⟨li, ei⟩ := List.getElem?_eq_some_iff.1 hi
  obtain ⟨lj, ej⟩ := List.getElem?_eq_some_iff.1 hj
  rcases Nat.lt_trichotomy i j with h | h | h
  · exact absurd (ei.trans ej.symm) (hp i j li lj h)
  · exact h
  · exact absurd (ej.trans ei.symm) (hp j i lj li h)
theorem QjL {W : World} {gs : List GV} (hw : ∀ x ∈ gs, W.heap[x.g]? = some (.cells x.cs x.ty x.fr)) (hn : (gs.map (·.g)).Nodup) : St (Qdi W gs) := by
  refine ⟨fun id b h => ?_, fun i j a b B hi hj _ _ hρi hρj => ?_⟩
  · obtain ⟨x, hx, rfl, hρ⟩ := QaV h
    exact ⟨hρ, hw x (List.mem_of_getElem? hx)⟩
  · obtain ⟨x, hx, rfl, hρ⟩ := QaV hi
    obtain ⟨y, hy, rfl, hρ'⟩ := QaV hj
    have e : x.g = y.g := (Option.some.inj (hρ.symm.trans hρi)).trans (Option.some.inj (hρ'.symm.trans hρj)).symm
    have e1 : (gs.map (·.g))[i]? = some x.g := by rw [List.getElem?_map, hx]; rfl
    have e2 : (gs.map (·.g))[j]? = some x.g := by rw [List.getElem?_map, hy, e]; rfl
    exact Qjb hn e1 e2
theorem QfL {W : World} {gs : List GV} {c : Cx} (hw : ∀ x ∈ gs, W.heap[x.g]? = some (.cells x.cs x.ty x.fr)) (hst : St c) (h : Ev (Qdi W gs) c) : Go.RowKit.Below W.heap.size W c.w := by
  refine ⟨h.os, h.tape, h.output, h.size, fun k hk => ?_⟩
  by_cases ho : (Qdi W gs).owns k
  · obtain ⟨id, b, hb, _, hρ⟩ := ho
    obtain ⟨x, hx, rfl, hρ'⟩ := QaV hb
    obtain rfl := Option.some.inj (hρ.symm.trans hρ')
    obtain ⟨b', hb', hk'⟩ := h.kin id _ hb
    simp only [GV.blk, Kin] at hk'
    obtain ⟨rfl, _⟩ := hk'
    rw [(hst.blocks id _ hb').2, hw x (List.mem_of_getElem? hx)]
  · exact h.frame k hk ho
theorem Qjg {W : World} {gs : List GV} {a : AV} {u : Value} (h : Rel (base0 W) a u) : Rel (Qdi W gs) a u := by
  have hp : ∀ {B o : Nat} {u : Value}, (base0 W).cellP B o u → (Qdi W gs).cellP B o u := fun {B o u} h => ⟨h.1, h.2.1, fun id b hb hl hρ => .inr (by
    obtain ⟨x, _, rfl, _⟩ := QaV hb
    exact ⟨_, _, _, _, rfl⟩)⟩
  induction h with
  | v x => exact .v x
  | junk x => exact .junk x
  | agg l cs hl h ih => exact .agg l cs hl ih
  | tup l cs hl h ih => exact .tup l cs hl ih
  | slnil s own ht => exact .slnil s own fun b hb => absurd (ht b hb).1 (by simp [base0])
  | slzero s own ba ht => exact .slzero s own ba fun b hb => absurd (ht b hb).1 (by simp [base0])
  | sl s xs own B o cap f hs hcap hmax hc hr ht ih => exact .sl s xs own B o cap f hs hcap hmax (fun j a hj => ⟨hp (hc j a hj).1, (hc j a hj).2⟩) ih fun b hb => absurd (ht b hb).1.1 (by simp [base0])
  | pin s xs k off B o f hs hc hr ih => exact .pin s xs k off B o f hs (fun j a hj => ⟨hp (hc j a hj).1, (hc j a hj).2⟩) ih
  | ptr id k off x hid => exact absurd hid (by simp [base0])
  | arr id lo len x hid => exact absurd hid (by simp [base0])
  | row id lo len cap x hid => exact absurd hid (by simp [base0])
  | mp id x hid => exact absurd hid (by simp [base0])
  | fn f first cap vs ws h1 h2 hv hw ihv ihw => exact .fn f first cap vs ws h1 h2 ihv ihw
  | ifc t a u h ih => exact .ifc t a u ih
  | spt s xs own p n k h ih => exact .spt s xs own p n k ih
theorem Qeq {W : World} {gs : List GV} {asx : List AV} {args : Array Value} (h : RelL (base0 W) asx args) : RelL (Qdi W gs) asx args := ⟨h.1, fun j a u e1 e2 => Qjg (h.2 j a u e1 e2)⟩
theorem Qeh {P : Program} {f : FuncId} {asx : List AV} {W : World} {args : Array Value} {gs : List GV} (hw : ∀ x ∈ gs, W.heap[x.g]? = some (.cells x.cs x.ty x.fr)) (hn : (gs.map (·.g)).Nodup)
    (hc : Yd P f asx (gs.map GV.blk) fun o h' => o = .ret (.v (.bool true)) ∧ h' = gs.map GV.blk) (hr : RelL (Qdi W gs) asx args) :
    Calls P f args W fun e W' => e = .returned (.bool true) ∧ Go.RowKit.Below W.heap.size W W' := by
  refine callsIn_wide.1 ((hc.2 Fence.wide 0 (Qdi W gs) args WF.wide (QjL hw hn) rfl hr).mono ?_)
  rintro e w' ⟨o, c', ⟨rfl, hh⟩, hev, hst, rfl, hend⟩
  obtain ⟨x, rfl, hx⟩ := hend
  cases hx
  exact ⟨rfl, QfL hw hst hev⟩
theorem QhC {P : Program} {W : World} {l : List (String × DataW Unit)} (h : laidMetH P l W) {x : String × DataW Unit} (hf : ((l.filter fun x => x.2.handleName?.isNone).filter fun y => y.1 == x.1) = [x]) : laidMet P [x] W := by
  have := (laidMetH_iff.1 h).1.filter fun y => y.1 == x.1
  rwa [hf] at this
theorem Qi6 {P : Program} {W : World} {nm : String} {g : Nat} {cs : Array Value} (hn : P.globalNamed nm = some g) (h : W.var? P nm = some cs) : ∃ ty fr, W.heap[g]? = some (.cells cs ty fr) := by
  simp only [World.var?, hn, QlI] at h
  split at h
  · rename_i cs' ty fr e
    cases h
    exact ⟨ty, fr, e⟩
  · cases h
theorem Qhw {P : Program} {W : World} {nm : String} {k : IntKind} {zs : List Int} {g : Nat} {t e : TypeId} {n : Nat}
    (hg : P.globalNamed nm = some g) (hty : (P.globals[g]?).map (·.type) = some t) (ht : P.underlying t = some (.array n e)) (he : P.underlying e = some (.int k)) (hce : P.cellsOf e = 1) (hct : P.cellsOf t = n)
    (h : laidMet P [(nm, Lib.tabData k zs)] W) : ∃ ty fr, W.heap[g]? = some (.cells (zs.map fun z => Value.int k z).toArray ty fr) :=
  Qi6 hg (Lib.tabIs_of_head hg hty ht he hce hct h)
end Go.Proofs.YtenheconhibonaaGreatDoor.Ab
namespace Go.Proofs.YtenheconhibonaaGreatDoor.Ab
open Go.Lib
def decN (n : Nat) : ByteArray := ⟨(decDigits n).toArray⟩
theorem Qdu (n : Nat) : (decN n).size = nDigits n := by
  show (decDigits n).toArray.size = _
  rw [List.size_toArray, decDigits_length]
theorem Qdx (n : Nat) : (decN n).data.toList = decDigits n := rfl
theorem Qbh : ∀ (k n : Nat), n < 10 ^ (k + 1) → nDigits n ≤ k + 1
  | 0, n, h => by rw [nDigits_small (by simpa using h)]; exact Nat.le_refl _
  | k + 1, n, h => by
    by_cases hn : n < 10
    · rw [nDigits_small hn]; omega
    · rw [nDigits_big hn]
      have := Qbh k (n / 10) (by rw [Nat.pow_succ] at h; omega)
      omega
theorem QbY {n : Nat} (h : n ≤ 9223372036854775808) : (decN n).size ≤ 19 := by
  rw [Qdu]
  exact Qbh 18 n (by omega)
theorem Qfj {n : Nat} (h : n ≤ 1048576) : (decN n).size ≤ 7 := by
  rw [Qdu]
  exact Qbh 6 n (by omega)
theorem Qj9 (n : Nat) : 1 ≤ (decN n).size := by rw [Qdu]; exact nDigits_pos n
theorem Qko {a b : ByteArray} (h : a.data.toList = b.data.toList) : a = b := by
  obtain ⟨a⟩ := a; obtain ⟨b⟩ := b
  congr 1
  exact Array.toList_inj.1 h
theorem QiF (a b : ByteArray) : (a ++ b).data.toList = a.data.toList ++ b.data.toList := by
  rw [ByteArray.data_append, Array.toList_append]
theorem Qbp {n : Nat} (h : n < 10) : decN n = strOfNums [((48 + n : Nat) : Int)] := by
  refine Qko ?_
  rw [Qdx, decDigits_one h, strOfNums_data]
  rfl
theorem Qc6 {n : Nat} (h : ¬ n < 10) : decN n = decN (n / 10) ++ strOfNums [((48 + n % 10 : Nat) : Int)] := by
  refine Qko ?_
  rw [QiF, Qdx, Qdx, decDigits, dif_neg h, strOfNums_data]
  rfl
end Go.Proofs.YtenheconhibonaaGreatDoor.Ab
set_option maxRecDepth 4000
namespace Go.Proofs.YtenheconhibonaaGreatDoor.Ab
open Go.Proofs Go.RowKit
def tabC : Array Value := (Lib.pow10Tab.map fun z => Value.int .u64 z).toArray
def XO (h : AH) : Prop := HasG h 0 tabC
open Go.Sort in
theorem Qcj (w : World) (q : Nat) (os : Array Obj) : Go.RowKit.Below w.heap.size w (grow (w.drewN q) os) :=
  ⟨rfl, rfl, rfl, by simp [grow], fun i hi => by
    show ((w.drewN q).heap ++ os)[i]? = _
    rw [Array.getElem?_append_left (by show i < w.heap.size; omega)]
    rfl⟩
theorem QiS (n : Nat) (hn : n ≤ 9223372036854775807) (h : AH) (hG : XO h) : Yd Tryz.prog 58 [.i n] h fun o h' => o = .ret (.v (.string (decN n))) ∧ h' = h :=
  QdP (vs := [.int .i64 n]) Tryz.call58 fun c hst hh => by
    have hv : c.w.var? Tryz.prog "internal/strconv.uint64pow10" = some tabC := HasG.var hst (hh ▸ hG) (by kernel_rfl)
    refine (Tryz.strconv_Itoa n (by omega) (by omega) c.w hv).mono ?_
    rintro e w' ⟨rfl, k, os, rfl⟩
    refine ⟨_, rfl, ?_, fun c' => by rw [Lib.itoa_nonneg]; exact .v _⟩
    exact Qcj c.w k os
theorem Qiv (n : Nat) (h1 : n ≤ 1048576) (h : AH) (hG : XO h) : Yd Tryz.prog 127 [.i n] h fun o h' => o = .ret (.v (.string (vOf (decN n)))) ∧ h' = h :=
  Qj3 n (by omega) (by omega) _ (by have := Qfj h1; omega) h (QiS n (by omega) h hG)
theorem QkR (x : Int) (h0 : 0 ≤ x) (h1 : x < 256) : pv Tryz.prog (convert 3 5 (.int .i64 x)) = some (.int .u8 x) := by
  rw [Qjj Tryz.prog 3 5 (ts := .int .i64) (kd := .u8) (by kernel_rfl) (by kernel_rfl)]
  have : IntKind.u8.wrap x = x := by simp [IntKind.wrap, IntKind.bits, IntKind.signed]; omega
  rw [this]
theorem QcO (n : Nat) : n ≤ 9223372036854775807 → Pure Tryz.prog 59 [.i n] (.v (.string (decN n))) := by
  induction n using Nat.strongRecOn with
  | _ n ih =>
    intro hn h
    have m0 : ¬ (n : Int) < 0 := by omega
    have hr := fun xo yo => QkN Tryz.prog 3 xo yo .i64 (n : Int) 10 (by decide)
    have hq := fun xo yo => Qkf Tryz.prog 3 xo yo .i64 (n : Int) 10 (by decide)
    have er : (n : Int).tmod 10 = ((n % 10 : Nat) : Int) := rfl
    have eq : IntKind.i64.wrap ((n : Int).tdiv 10) = ((n / 10 : Nat) : Int) := by
      rw [show (n : Int).tdiv 10 = ((n / 10 : Nat) : Int) from rfl, Yh (by omega)]
    have ew : IntKind.i64.wrap (48 + ((n % 10 : Nat) : Int)) = ((48 + n % 10 : Nat) : Int) := by rw [Yh (by omega)]; omega
    have hc := QkR ((48 + n % 10 : Nat) : Int) (by omega) (by omega)
    have hby : QeN Tryz.prog 72 9 = true := by kernel_rfl
    by_cases hs : n < 10
    · have m1 : (n : Int) < 10 := by omega
      have e0 : n % 10 = n := Nat.mod_eq_of_lt hs
      rw [e0] at er ew hc
      refine Qh Tryz.func59 rfl Tryz.call59 Tryz.ntmps59 (congrArg Array.toList Tryz.results59) (by simp) ?_
      repeat (first | (((with_reducible refine Qa fun K E hK hE => ?_)); simp -implicitDefEqProofs only [Qd, Qb, Qg, OpW, aop, undef, AS.ev, Qc, Qq, QF, Qk, QD, QlK, AV.Qk5, Q6, QlX, QlY, QC, QlZ, ↓reduceIte, QlQ, QlR, Nat.reduceLT, Nat.reduceLeDiff, Nat.reduceEqDiff, Nat.reduceMul, QlP, Qmb, aBin, Q7, Ze, QlF, QlS, QlW, QW, Xf, Ql9, Qma, QlL, rng1, Xa, Nat.reducePow, zi5, ei72, m0, m1, hr, er, ew, hc, QbE, hby, intsOf]) | (with_reducible (first | refine Qi fun K hK => ?_ | refine Qn ?_ | refine Qv ?_ | refine Qf ?_ | refine QB ?_)) | ((with_reducible refine hK _ ?_); clear hK) | (refine Qj rfl ?_; simp only [↓reduceIte, QlH]))
      simp only [QN, Qp, Qu, upd, ↓reduceIte, QlJ, QlN]; first | refine Qe (htake _ _) (.keep (.v _)) ⟨by rw [Qbp hs], rfl⟩ | refine Qe List.take_length (.keep (.v _)) ⟨by rw [Qbp hs], rfl⟩
    · have m1 : ¬ (n : Int) < 10 := by omega
      have c := ih (n / 10) (by omega) (by omega)
      have hsz : (decN (n / 10)).size ≤ 19 := QbY (by omega)
      have hsa := fun xo yo => Xl Tryz.prog 9 xo yo (decN (n / 10)) (strOfNums [((48 + n % 10 : Nat) : Int)]) (by rw [strOfNums_size]; simp; omega)
      refine Qh Tryz.func59 rfl Tryz.call59 Tryz.ntmps59 (congrArg Array.toList Tryz.results59) (by simp) ?_
      repeat (first | ((first | (with_reducible (first | refine Qa fun K E hK hE => ?_ | refine Qs c ?_))); simp -implicitDefEqProofs only [Qd, Qb, Qg, OpW, QR, aop, undef, AS.ev, Qc, Qq, QF, Qk, QD, QlK, AV.Qk5, Q6, QlX, QlY, QC, QlZ, ↓reduceIte, QlQ, QlR, Nat.reduceLT, Nat.reduceLeDiff, Nat.reduceEqDiff, Nat.reduceMul, QlP, Qmb, aBin, Q7, Ze, QlF, QlS, QlW, QW, Xf, Qma, QlL, rng1, Xa, Nat.reducePow, zi5, ei72, m0, m1, hr, hq, er, eq, ew, hc, QbE, hby, intsOf, hsa]) | (with_reducible (first | refine Qi fun K hK => ?_ | refine Qn ?_ | refine Qv ?_ | refine Qf ?_)) | ((with_reducible refine hK _ ?_); clear hK) | (refine Qj rfl ?_; simp only [↓reduceIte, QlH]))
      simp only [QN, Qp, Qu, upd, ↓reduceIte, QlJ, QlN]; first | refine Qe (htake _ _) (.keep (.v _)) ⟨by rw [Qc6 hs], rfl⟩ | refine Qe List.take_length (.keep (.v _)) ⟨by rw [Qc6 hs], rfl⟩
theorem QeO (n : Nat) (h1 : n ≤ 1048576) : Pure Tryz.prog 26 [.i n] (.v (.string (vOf (decN n)))) := by
  intro h
  have m0 : ¬ (n : Int) < 0 := by omega
  have m1 : ¬ (n : Int) > 1048576 := by omega
  have c := QcO n (by omega)
  have hsz := Qfj h1
  have hsa := fun xo yo => Xl Tryz.prog 9 xo yo ({ data := #[86] } : ByteArray) (decN n) (by show 1 + _ ≤ _; omega)
  refine Qh Tryz.func26 rfl Tryz.call26 Tryz.ntmps26 (congrArg Array.toList Tryz.results26) (by simp) ?_
  repeat (first | ((first | (with_reducible (first | refine Qa fun K E hK hE => ?_ | refine Qs c ?_))); simp -implicitDefEqProofs only [Qd, Qb, Qg, OpW, QR, aop, undef, AS.ev, Qc, Qq, QF, Qk, QD, QlK, ↓reduceIte, Nat.reduceLT, Nat.reduceEqDiff, aBin, QlD, QlE, QlF, QlI, QlG, QlS, QlW, QW, Q1, Qma, QlL, QlH, m0, m1, hsa]) | (with_reducible (first | refine Qi fun K hK => ?_ | refine Qn ?_ | refine Qv ?_ | refine Qf ?_)) | ((with_reducible refine hK _ ?_); clear hK) | (refine Qj rfl ?_; simp only [↓reduceIte, QlH]))
  simp only [QN, Qp, Qu, upd, ↓reduceIte, QlJ, QlN]; first | refine Qe (htake _ _) (.keep (.v _)) ⟨rfl, rfl⟩ | refine Qe List.take_length (.keep (.v _)) ⟨rfl, rfl⟩
end Go.Proofs.YtenheconhibonaaGreatDoor.Ab
set_option maxRecDepth 4000
namespace Go.Proofs.YtenheconhibonaaGreatDoor.Ab
open Go.Proofs
def BTy (ty : TypeId) : Prop := ty = 74 ∨ ty = 138
theorem QkL (xo : Operand) : pv Tryz.prog (do eqGuard .eql 71 xo (.const (.pointer none)) (.pointer none) (.pointer none); binOp .eql 71 (.pointer none) (.pointer none)) = some (.bool true) := by
  kernel_rfl
theorem BTy.cells {ty : TypeId} (h : BTy ty) : Tryz.prog.cellsOf ty = 2 := by rcases h with rfl | rfl <;> kernel_rfl
theorem BTy.lies {ty : TypeId} (h : BTy ty) : liesAt Tryz.prog Tryz.prog.depth ty 1 0 74 1 = true := by rcases h with rfl | rfl <;> kernel_rfl
theorem unB : Tryz.prog.underlying 71 = some (.pointer 74) := by kernel_rfl
theorem unU : Tryz.prog.underlying 169 = some .unsafePointer := by kernel_rfl
theorem inB : ∃ j, Tryz.prog.info? 74 = some j ∧ j.size ≠ 0 := by
  have h : (match Tryz.prog.info? 74 with | some j => decide (j.size ≠ 0) | none => false) = true := by kernel_rfl
  cases hj : Tryz.prog.info? 74 with
  | none => rw [hj] at h; cases h
  | some j => rw [hj] at h; exact ⟨j, rfl, of_decide_eq_true h⟩
theorem isB : (Tryz.prog.info? 74).isSome = true := by kernel_rfl
theorem toU {ty : TypeId} (hty : BTy ty) {h : AH} {i : Nat} {xs : List AV} (hb : h[i]? = some (.cells ty 2 [.agg xs])) : Qal Tryz.prog 71 169 i 0 0 h = some (.ptr i 0 0) := by
  obtain ⟨j, hj, h0⟩ := inB
  simp only [Qal, hb, unB, unU, hj]
  rw [if_neg (by simp), if_pos h0]
theorem Qk1 {ty : TypeId} (hty : BTy ty) {h : AH} {i : Nat} {xs : List AV} (hb : h[i]? = some (.cells ty 2 [.agg xs])) : Qal Tryz.prog 169 71 i 0 0 h = some (.ptr i 0 0) := by
  obtain ⟨j, hj, h0⟩ := inB
  simp only [Qal, hb, unB, unU, hj]
  rw [if_neg (by simp), if_pos ⟨rfl, hty.cells, hty.lies⟩]
theorem QaA {ty : TypeId} (hty : BTy ty) {i j : Nat} (hij : i ≠ j) (u : Bool) (tx : ByteArray) : Wr Tryz.prog 5 ty 81 [.ptr i 0 0] i j u tx (.tup []) true tx := by
  intro h hi hj
  have f1 := fun x y => Zl h i x j y
  have f2 := fun x y => Zs (h := h) hi hij x y
  have f3 := fun x y z => Qc9 (h := h) (i := i) (j := j) hij x y z
  have f4 := QkL
  have c0 := fun y h => Qjo (P := Tryz.prog) (y := y) (h := h) Tryz.func121 (by kernel_rfl) (by kernel_rfl) (by kernel_rfl) (by kernel_rfl)
  cases u
  · refine Qh Tryz.func81 rfl Tryz.call81 Tryz.ntmps81 (congrArg Array.toList Tryz.results81) (by simp) ?_
    rw [bw0, bw1]
    repeat (first | ((first | (with_reducible (first | refine Qa fun K E hK hE => ?_ | refine Qo fun K E hK hE => ?_ | refine FunW.ret (c0 _ _) ?_))); simp -implicitDefEqProofs only [Qd, Qb, Qg, OpW, QR, aop, undef, AS.ev, Qc, QY, Xt, Qk, QD, QlK, AV.Qk5, Qy, Xh, QM, XQ, QlX, QlY, Xm, QlZ, ↓reduceIte, QlQ, QlR, Nat.reduceAdd, Nat.reduceLT, Nat.reduceLeDiff, Nat.reduceEqDiff, QlP, Ql2, Qmc, Qmb, Ql, QK, QL, Xj, Q0, aBin, QlD, Ql7, QlF, QlS, QlW, Ql5, Ql4, QlV, QlM, QlU, QlH, ti71, Qkk, Q5, f2, f3, f4, toU hty (Zs (h := h) hi hij _ _), Qk1 hty (Zs (h := h) hi hij _ _)]) | ((with_reducible refine hK _ ?_); clear hK) | (refine Qj rfl ?_; simp only [↓reduceIte]))
    simp -implicitDefEqProofs only [QlF, QlJ, List.mapM_nil, Option.pure_def, QlF, QN, Qp, QlN]
    exact .inr ⟨rfl, rfl⟩
  · refine Qh Tryz.func81 rfl Tryz.call81 Tryz.ntmps81 (congrArg Array.toList Tryz.results81) (by simp) ?_
    rw [bw1]
    repeat (first | (((with_reducible refine Qa fun K E hK hE => ?_)); simp -implicitDefEqProofs only [Qd, Qb, Qg, OpW, aop, undef, AS.ev, Qc, Xt, Qk, QD, QlK, Qy, ↓reduceIte, Nat.reduceLT, Nat.reduceEqDiff, Ql2, Qmb, Ql, QK, QL, aBin, QlD, QlF, ti71, un71, Qkk, Q5, f2, isB, QdR, notNil]) | (with_reducible refine Qv ?_) | ((with_reducible refine hK _ ?_); clear hK) | (refine Qj rfl ?_; simp only [↓reduceIte, QlH]))
    simp -implicitDefEqProofs only [QlF, QlJ, List.mapM_nil, Option.pure_def, QlF, QN, Qp, QlN]
    exact .inr ⟨rfl, rfl⟩
theorem Qkx : Tryz.prog.underlying 72 = some (.slice 5) := by kernel_rfl
theorem Qin : Tryz.prog.underlying 9 = some .string := by kernel_rfl
theorem inU8 : ∃ i z, Tryz.prog.info? 5 = some i ∧ i.zero = some z ∧ i.size = 1 ∧ i.bytes = 1 ∧ z.cells.size = 1 := by
  have h : (match Tryz.prog.info? 5 with | some i => (match i.zero with | some z => decide (i.size = 1 ∧ i.bytes = 1 ∧ z.cells.size = 1) | none => false) | none => false) = true := by kernel_rfl
  cases hj : Tryz.prog.info? 5 with
  | none => rw [hj] at h; cases h
  | some i =>
    cases hz : i.zero with
    | none => rw [hj] at h; simp [hz] at h
    | some z => rw [hj] at h; simp only [hz] at h; exact ⟨i, z, rfl, hz, of_decide_eq_true h⟩
theorem appS {tx s : ByteArray} {j : Nat} {h : AH} (hj : h[j]? = some (.grow 5 1 tx.size)) (hs : tx.size + s.size ≤ 140737488355328) :
    Qbj Tryz.prog 72 9 (.sl 1 (XF tx) (some j)) s h = some (.sl 1 (XF (tx ++ s)) (some j), h.set j (.grow 5 1 (tx ++ s).size)) := by
  obtain ⟨i, z, h1, h2, h3, h4, h5⟩ := inU8
  exact QgD Qkx Qin h1 h2 h3 h4 h5 hj hs
theorem appN : appInfo Tryz.prog 72 9 = none := by kernel_rfl
theorem Qa3 {ty : TypeId} (hty : BTy ty) {i j : Nat} (hij : i ≠ j) (u : Bool) (tx s : ByteArray) (hs : tx.size + s.size ≤ 140737488355328) : Wr Tryz.prog 5 ty 35 [.ptr i 0 0, .v (.string s)] i j u tx (.tup [.i s.size, .v .nilIface]) true (tx ++ s) := by
  intro h hi hj
  have f1 := fun x y => Zl h i x j y
  have f2 := fun x y => Zs (h := h) hi hij x y
  have f3 := fun x y z => Qc9 (h := h) (i := i) (j := j) hij x y z
  have f5 := fun x y z => Qde (h := h) (i := i) (j := j) x y z
  have f6 := fun x => appS (Qbs (h := h) (i := i) hj x (.grow 5 1 tx.size)) hs
  have c1 := QaA hty hij u tx h hi hj
  have hsl := Z4 Tryz.prog 9 3 Qin s
  refine Qh Tryz.func35 rfl Tryz.call35 Tryz.ntmps35 (congrArg Array.toList Tryz.results35) (by simp) ?_
  repeat (first | ((first | (with_reducible (first | refine Qa fun K E hK hE => ?_ | refine FunW.ret (FunW.call c1) ?_))); simp -implicitDefEqProofs only [Qd, Qb, Qg, OpW, QR, aop, undef, AS.ev, Qc, QY, Qq, Xn, Qk, QD, QlK, Ql3, AV.Qk5, Qy, Xs, QM, XJ, QlX, QlY, QI, QlZ, ↓reduceIte, QlQ, QlR, Nat.reduceAdd, Nat.reduceLT, Nat.reduceLeDiff, Nat.reduceEqDiff, QlP, Qmb, Ql, QK, QL, Xj, Q0, aLen, YV, QlD, QlE, Ql7, QlF, QlS, QlW, Ql5, Ql4, Ql6, QlO, QlV, QlM, QlU, goInt, QlH, ti72, Qgv, Q5, f2, f3, f5, f6, bw1, aopR, appN, hsl]) | (with_reducible refine Qn ?_) | ((with_reducible refine hK _ ?_); clear hK))
  simp -implicitDefEqProofs only [Qk, ↓reduceIte, Nat.reduceEqDiff, QlF, QlI, QlJ, List.mapM_nil, List.mapM_cons, Option.pure_def, QlF, Option.bind_eq_bind, QN, Qp, Qu, QlN]
  exact .inr ⟨rfl, rfl⟩
theorem Qfa {ty : TypeId} (hty : BTy ty) {i j : Nat} (hij : i ≠ j) (u : Bool) (tx : ByteArray) (b : UInt8) (hs : tx.size < 140737488355328) : Wr Tryz.prog 5 ty 149 [.ptr i 0 0, .v (.int .u8 (b.toNat : Nat))] i j u tx (.v .nilIface) true (tx ++ { data := #[b] }) := by
  intro h hi hj
  have f1 := fun x y => Zl h i x j y
  have f2 := fun x y => Zs (h := h) hi hij x y
  have f3 := fun x y z => Qc9 (h := h) (i := i) (j := j) hij x y z
  have f5 := fun x y z => Qde (h := h) (i := i) (j := j) x y z
  have f7 := fun x y => Qbs (h := h) (i := i) hj x y
  have c1 := QaA hty hij u tx h hi hj
  have e1 : XF (tx ++ { data := #[b] }) = XF tx ++ [.v (.int .u8 (b.toNat : Nat))] := Qak tx _
  have e2 : (tx ++ ({ data := #[b] } : ByteArray)).size = tx.size + 1 := Qt _ _
  have hs' : tx.size + 1 ≤ 140737488355328 := hs
  refine Qh Tryz.func149 rfl Tryz.call149 Tryz.ntmps149 (congrArg Array.toList Tryz.results149) (by simp) ?_
  rw [bw1, e1, e2]
  have hm : tx.size + 1 ≤ maxLen := by simp only [maxLen]; omega
  repeat (first | ((first | (with_reducible (first | refine Qa fun K E hK hE => ?_ | refine FunW.ret (FunW.call c1) ?_))); simp -implicitDefEqProofs only [Qd, Qb, Qg, OpW, QR, aop, undef, AS.ev, Qc, QY, Xn, Qk, QD, QlK, Ql3, AV.Qk5, Qy, Q6, Xs, QM, XJ, QlX, QlY, QC, QI, QlZ, ↓reduceIte, QlQ, QlR, Nat.reduceAdd, Nat.reduceLT, Nat.reduceLeDiff, Nat.reduceEqDiff, QlP, Qmb, Ql, QK, QL, Xj, Q0, Q7, YV, Ze, QlD, QlE, Ql7, QlF, QlS, QlW, Ql5, Ql4, Ql6, QlO, QlV, QlM, QlU, QlL, QlH, rng1, Xa, Nat.reducePow, zi5, ti72, ei72, ai72, Qgv, Q5, f2, f3, f5, f7, bw1, YC, hm, hs', Nat.mul_one]) | (with_reducible refine Qn ?_) | ((with_reducible refine hK _ ?_); clear hK))
  simp -implicitDefEqProofs only [Qk, ↓reduceIte, QlJ, QN, Qp, Qu, QlN]
  exact .inr ⟨rfl, rfl⟩
theorem unPB : Tryz.prog.underlying 140 = some (.pointer 5) := by kernel_rfl
theorem szB : Tryz.prog.cellsOf 5 = 1 := by kernel_rfl
theorem Qbr {ty : TypeId} {i j : Nat} (hij : i ≠ j) (tx : ByteArray) (h0 : 0 < tx.size) (hs : tx.size ≤ 140737488355328) : Chg2 Tryz.prog 41 [.ptr i 0 0] i (bw ty i j true tx) j (.grow 5 1 tx.size) (.v (.string tx)) (bw ty i j true tx) .gone := by
  intro h hi hj
  have f1 := fun x y => Zl h i x j y
  have f2 := fun x y => Zs (h := h) hi hij x y
  have f5 := fun x y z => Qde (h := h) (i := i) (j := j) x y z
  have f7 := fun x y => Qbs (h := h) (i := i) hj x y
  have hs' : tx.size ≤ 9223372036854775807 := by omega
  have g1 := QcX h0 j
  have g2 := fun x => Qc0 (P := Tryz.prog) unPB szB (T := tx) (f7 x (.grow 5 1 tx.size)) h0 hs'
  refine Qh Tryz.func41 rfl Tryz.call41 Tryz.ntmps41 (congrArg Array.toList Tryz.results41) (by simp) ?_
  rw [bw1]
  repeat (first | ((first | (with_reducible refine Qa fun K E hK hE => ?_) | (refine QX (id := 1) [(0, 0), (1, 0), (2, 0), (3, 0), (4, 0), (5, 0), (6, 0), (7, 0), (8, 0), (9, 0), (10, 2), (11, 0)] mixed (by kernel_rfl) fun K hK => ?_)); simp -implicitDefEqProofs only [Xk, Xd, Xw, Qd, Qb, Qg, OpW, aop, undef, AS.ev, Qc, QF, Qk, QD, QlK, Qy, ↓reduceIte, Nat.reduceLT, Nat.reduceEqDiff, QlP, Ql, QK, QL, aLen, QlD, QlE, QlF, QlG, goInt, ti72, un72, Qgv, Q5, f2, f5, g1, g2, YC]) | (with_reducible refine Qn ?_) | ((with_reducible refine hK _ ?_); clear hK))
  simp only [QN, Qp, Qu, upd, ↓reduceIte, QlJ, QlN]
  exact .inr ⟨rfl, rfl⟩
theorem QkX : pv Tryz.prog (Builtin.len_ #[72] 3 #[.slice none 0 0]) = some (.int .i64 0) := by kernel_rfl
def bw00 (ty : TypeId) : AB := .cells ty 2 [.agg [.v (.pointer none), .v (.slice none 0 0)]]
theorem QaB {ty : TypeId} {i : Nat} : Chg Tryz.prog 41 [.ptr i 0 0] i (bw00 ty) (.v (.string .empty)) (bw00 ty) := by
  intro h hi
  have f2 := fun x => Qkl (h := h) hi x
  refine Qh Tryz.func41 rfl Tryz.call41 Tryz.ntmps41 (congrArg Array.toList Tryz.results41) (by simp) ?_
  rw [bw00]
  repeat (first | ((first | (with_reducible refine Qa fun K E hK hE => ?_) | (refine QX (id := 1) [(0, 0), (1, 0), (2, 0), (3, 0), (4, 0), (5, 0), (6, 0), (7, 0), (8, 0), (9, 0), (10, 2), (11, 0)] mixed (by kernel_rfl) fun K hK => ?_)); simp -implicitDefEqProofs only [Xk, Xd, Xw, Qd, Qb, Qg, OpW, aop, undef, AS.ev, Qc, QF, Qk, QD, QlK, Qy, ↓reduceIte, Nat.reduceLT, Nat.reduceEqDiff, QlP, Ql, QK, QL, aLen, QlD, QlE, QlF, QlG, ti72, Qgv, Q5, f2, Qao, Zi, QkX]) | (with_reducible refine Qn ?_) | ((with_reducible refine hK _ ?_); clear hK))
  simp only [QN, Qp, Qu, upd, ↓reduceIte, QlJ, QlN]
  exact .inr ⟨rfl, rfl⟩
end Go.Proofs.YtenheconhibonaaGreatDoor.Ab
set_option maxRecDepth 4000
namespace Go.Proofs.YtenheconhibonaaGreatDoor.Ab
open Go.Proofs
abbrev mi : ByteArray := { data := #[45] }
def decZ (n : Int) : ByteArray := if n < 0 then mi ++ decN n.natAbs else decN n.toNat
theorem Qjs (n : Int) : (⟨(Lib.itoa n).toArray⟩ : ByteArray) = decZ n := by
  unfold decZ Lib.itoa
  split
  · apply ByteArray.ext; rfl
  · rfl
theorem Qb4 (n : Int) (h1 : -9223372036854775808 ≤ n) (h2 : n ≤ 9223372036854775807) : (decZ n).size ≤ 20 := by
  unfold decZ
  split
  · rw [Qt]
    have := QbY (n := n.natAbs) (by omega)
    have : mi.size = 1 := rfl
    omega
  · have := QbY (n := n.toNat) (by omega)
    omega
theorem Qj6 (n : Int) : 0 < (decZ n).size := by
  unfold decZ
  split
  · rw [Qt]
    have : mi.size = 1 := rfl
    omega
  · exact Qj9 _
theorem Qei (n : Int) (h0 : -9223372036854775808 ≤ n) (hn : n ≤ 9223372036854775807) (h : AH) (hG : XO h) : Yd Tryz.prog 58 [.i n] h fun o h' => o = .ret (.v (.string (decZ n))) ∧ h' = h :=
  QdP (vs := [.int .i64 n]) Tryz.call58 fun c hst hh => by
    have hv : c.w.var? Tryz.prog "internal/strconv.uint64pow10" = some tabC := HasG.var hst (hh ▸ hG) (by kernel_rfl)
    refine (Tryz.strconv_Itoa n h0 hn c.w hv).mono ?_
    rintro e w' ⟨rfl, k, os, rfl⟩
    refine ⟨_, rfl, ?_, fun c' => by rw [← Qjs]; exact .v _⟩
    exact Qcj c.w k os
theorem Qhg (n : Nat) : 0 < n → n ≤ 9223372036854775807 → Pure Tryz.prog 59 [.i (-(n : Int))] (.v (.string (mi ++ decN n))) := by
  induction n using Nat.strongRecOn with
  | _ n ih =>
    intro hp hn h
    have m0 : (-(n : Int)) < 0 := by omega
    have hq := fun xo yo => Qkf Tryz.prog 3 xo yo .i64 (-(n : Int)) 10 (by decide)
    have eq0 : (-(n : Int)).tdiv 10 = -((n / 10 : Nat) : Int) := by rw [Int.neg_tdiv]; rfl
    have eq : IntKind.i64.wrap ((-(n : Int)).tdiv 10) = -((n / 10 : Nat) : Int) := by rw [eq0, Yh (by omega)]
    have e1 : IntKind.i64.wrap (-((n / 10 : Nat) : Int) * 10) = -((n / 10 : Nat) : Int) * 10 := Yh (by omega)
    have e2 : IntKind.i64.wrap (48 + -((n / 10 : Nat) : Int) * 10) = 48 + -((n / 10 : Nat) : Int) * 10 := Yh (by omega)
    have e3 : IntKind.i64.wrap (48 + -((n / 10 : Nat) : Int) * 10 - -(n : Int)) = ((48 + n % 10 : Nat) : Int) := by rw [Yh (by omega)]; omega
    have hc := QkR ((48 + n % 10 : Nat) : Int) (by omega) (by omega)
    have hby : QeN Tryz.prog 72 9 = true := by kernel_rfl
    by_cases hs : n < 10
    · have m1 : -(n : Int) > -10 := by omega
      have e0 : n % 10 = n := Nat.mod_eq_of_lt hs
      rw [e0] at e3 hc
      have hsa := fun xo yo => Xl Tryz.prog 9 xo yo mi (strOfNums [((48 + n : Nat) : Int)]) (by rw [strOfNums_size]; simp; decide)
      refine Qh Tryz.func59 rfl Tryz.call59 Tryz.ntmps59 (congrArg Array.toList Tryz.results59) (by simp) ?_
      repeat (first | (((with_reducible refine Qa fun K E hK hE => ?_)); simp -implicitDefEqProofs only [Qd, Qb, Qg, OpW, aop, undef, AS.ev, Qc, Qq, QF, Qk, QD, QlK, AV.Qk5, Q6, QlX, QlY, QC, QlZ, ↓reduceIte, QlQ, QlR, Nat.reduceLT, Nat.reduceLeDiff, Nat.reduceEqDiff, Nat.reduceMul, QlP, Qmb, aBin, Q7, Ze, QlF, QlS, QlW, QW, Q1, Xf, YA, Qkg, Ql9, QlL, rng1, Xa, Nat.reducePow, zi5, ei72, m0, m1, hq, eq, e1, e2, e3, hc, QbE, hby, intsOf, hsa]) | (with_reducible (first | refine Qi fun K hK => ?_ | refine Qn ?_ | refine QB ?_)) | ((with_reducible refine hK _ ?_); clear hK) | (refine Qj rfl ?_; simp only [↓reduceIte]))
      simp only [QN, Qp, Qu, upd, ↓reduceIte, QlJ, QlN]; first | refine Qe (htake _ _) (.keep (.v _)) ⟨by rw [Qbp hs], rfl⟩ | refine Qe List.take_length (.keep (.v _)) ⟨by rw [Qbp hs], rfl⟩
    · have m1 : ¬ -(n : Int) > -10 := by omega
      have c := ih (n / 10) (by omega) (by omega) (by omega)
      have hsz : (mi ++ decN (n / 10)).size ≤ 20 := by rw [Qt]; have := QbY (n := n / 10) (by omega); have : mi.size = 1 := rfl; omega
      have hsa := fun xo yo => Xl Tryz.prog 9 xo yo (mi ++ decN (n / 10)) (strOfNums [((48 + n % 10 : Nat) : Int)]) (by rw [strOfNums_size]; simp only [QlQ, QlR]; omega)
      refine Qh Tryz.func59 rfl Tryz.call59 Tryz.ntmps59 (congrArg Array.toList Tryz.results59) (by simp) ?_
      repeat (first | ((first | (with_reducible (first | refine Qa fun K E hK hE => ?_ | refine Qs c ?_))); simp -implicitDefEqProofs only [Qd, Qb, Qg, OpW, QR, aop, undef, AS.ev, Qc, Qq, QF, Qk, QD, QlK, AV.Qk5, Q6, QlX, QlY, QC, QlZ, ↓reduceIte, QlQ, QlR, Nat.reduceLT, Nat.reduceLeDiff, Nat.reduceEqDiff, Nat.reduceMul, QlP, Qmb, aBin, Q7, Ze, QlF, QlS, QlW, QW, Q1, Xf, YA, Qkg, Ql9, Qma, QlL, rng1, Xa, Nat.reducePow, zi5, ei72, m0, m1, hq, eq, e1, e2, e3, hc, QbE, hby, intsOf, hsa]) | (with_reducible (first | refine Qi fun K hK => ?_ | refine Qn ?_ | refine Qv ?_ | refine Qf ?_ | refine QB ?_)) | ((with_reducible refine hK _ ?_); clear hK) | (refine Qj rfl ?_; simp only [↓reduceIte, QlH]))
      simp only [QN, Qp, Qu, upd, ↓reduceIte, QlJ, QlN]; first | refine Qe (htake _ _) (.keep (.v _)) ⟨by rw [Qc6 hs, ByteArray.append_assoc], rfl⟩ | refine Qe List.take_length (.keep (.v _)) ⟨by rw [Qc6 hs, ByteArray.append_assoc], rfl⟩
theorem Qhr (n : Int) (h0 : -9223372036854775807 ≤ n) (hn : n ≤ 9223372036854775807) : Pure Tryz.prog 59 [.i n] (.v (.string (decZ n))) := by
  by_cases h : n < 0
  · have e : n = -(n.natAbs : Int) := by omega
    have c := Qhg n.natAbs (by omega) (by omega)
    rw [← e] at c
    rw [decZ, if_pos h]
    exact c
  · have e : n = (n.toNat : Int) := by omega
    have c := QcO n.toNat (by omega)
    rw [← e] at c
    rw [decZ, if_neg h]
    exact c
def ofB (s : ByteArray) : Int := if (s.toList == ({ data := #[43] } : ByteArray).toList) || (s.toList == ({ data := #[45] } : ByteArray).toList) then 1 else if (s.toList == ({ data := #[42] } : ByteArray).toList) || (s.toList == ({ data := #[47] } : ByteArray).toList) || (s.toList == ({ data := #[37] } : ByteArray).toList) then 2 else 0
def T.oper (t : T) : Int := if t.kind ≠ 2 ∨ t.args.length ≠ 2 then 0 else ofB t.name
theorem Qil (s : ByteArray) : Pure Tryz.prog 150 [.v (.string s)] (.i (ofB s)) := by
  intro h
  cases b1 : s.toList == ({ data := #[43] } : ByteArray).toList
  · cases b2 : s.toList == ({ data := #[45] } : ByteArray).toList
    · cases b3 : s.toList == ({ data := #[42] } : ByteArray).toList
      · cases b4 : s.toList == ({ data := #[47] } : ByteArray).toList
        · cases b5 : s.toList == ({ data := #[37] } : ByteArray).toList
          · have e : ofB s = 0 := by rw [ofB, b1, b2, b3, b4, b5]; rfl
            refine Qh Tryz.func150 rfl Tryz.call150 Tryz.ntmps150 (congrArg Array.toList Tryz.results150) (by simp) ?_
            repeat (first | ((first | (with_reducible (first | refine Qa fun K E hK hE => ?_ | refine Qo fun K E hK hE => ?_))); simp -implicitDefEqProofs only [Qd, Qb, Qg, OpW, aop, undef, AS.ev, Qc, Qq, QF, Qk, QD, QlK, ↓reduceIte, Nat.reduceLT, Nat.reduceEqDiff, aBin, QlF, QZ, b1, b2, b3, b4, b5]) | (with_reducible (first | refine Qi fun K hK => ?_ | refine Qm ?_ | refine Qn ?_ | refine Qv ?_ | refine Qf ?_ | refine Qw ?_)) | ((with_reducible refine hK _ ?_); clear hK) | (refine Qj rfl ?_; simp only [↓reduceIte, QlH]))
            simp only [QN, Qp, Qu, upd, ↓reduceIte, QlJ, QlN]; first | refine Qe (htake _ _) (.keep (.v _)) ⟨by rw [e], rfl⟩ | refine Qe List.take_length (.keep (.v _)) ⟨by rw [e], rfl⟩
          · have e : ofB s = 2 := by rw [ofB, b1, b2, b3, b4, b5]; rfl
            refine Qh Tryz.func150 rfl Tryz.call150 Tryz.ntmps150 (congrArg Array.toList Tryz.results150) (by simp) ?_
            repeat (first | ((first | (with_reducible (first | refine Qa fun K E hK hE => ?_ | refine Qo fun K E hK hE => ?_))); simp -implicitDefEqProofs only [Qd, Qb, Qg, OpW, aop, undef, AS.ev, Qc, Qq, QF, Qk, QD, QlK, ↓reduceIte, Nat.reduceLT, Nat.reduceEqDiff, aBin, QlF, QZ, b1, b2, b3, b4, b5]) | (with_reducible (first | refine Qi fun K hK => ?_ | refine Qm ?_ | refine Qn ?_ | refine Qf ?_ | refine QB ?_ | refine QH ?_)) | ((with_reducible refine hK _ ?_); clear hK) | (refine Qj rfl ?_; simp only [↓reduceIte, QlH]))
            simp only [QN, Qp, Qu, upd, ↓reduceIte, QlJ, QlN]; first | refine Qe (htake _ _) (.keep (.v _)) ⟨by rw [e], rfl⟩ | refine Qe List.take_length (.keep (.v _)) ⟨by rw [e], rfl⟩
        · have e : ofB s = 2 := by rw [ofB, b1, b2, b3, b4]; rfl
          refine Qh Tryz.func150 rfl Tryz.call150 Tryz.ntmps150 (congrArg Array.toList Tryz.results150) (by simp) ?_
          repeat (first | ((first | (with_reducible (first | refine Qa fun K E hK hE => ?_ | refine Qo fun K E hK hE => ?_))); simp -implicitDefEqProofs only [Qd, Qb, Qg, OpW, aop, undef, AS.ev, Qc, Qq, QF, Qk, QD, QlK, ↓reduceIte, Nat.reduceLT, Nat.reduceEqDiff, aBin, QlF, QZ, b1, b2, b3, b4]) | (with_reducible (first | refine Qi fun K hK => ?_ | refine Qm ?_ | refine Qn ?_ | refine Qv ?_ | refine Qf ?_ | refine QB ?_ | refine QH ?_)) | ((with_reducible refine hK _ ?_); clear hK) | (refine Qj rfl ?_; simp only [↓reduceIte, QlH]))
          simp only [QN, Qp, Qu, upd, ↓reduceIte, QlJ, QlN]; first | refine Qe (htake _ _) (.keep (.v _)) ⟨by rw [e], rfl⟩ | refine Qe List.take_length (.keep (.v _)) ⟨by rw [e], rfl⟩
      · have e : ofB s = 2 := by rw [ofB, b1, b2, b3]; rfl
        refine Qh Tryz.func150 rfl Tryz.call150 Tryz.ntmps150 (congrArg Array.toList Tryz.results150) (by simp) ?_
        repeat (first | ((first | (with_reducible (first | refine Qa fun K E hK hE => ?_ | refine Qo fun K E hK hE => ?_))); simp -implicitDefEqProofs only [Qd, Qb, Qg, OpW, aop, undef, AS.ev, Qc, Qq, QF, Qk, QD, QlK, ↓reduceIte, Nat.reduceLT, Nat.reduceEqDiff, aBin, QlF, QZ, b1, b2, b3]) | (with_reducible (first | refine Qi fun K hK => ?_ | refine Qm ?_ | refine Qn ?_ | refine Qv ?_ | refine Qf ?_ | refine QB ?_ | refine QH ?_)) | ((with_reducible refine hK _ ?_); clear hK) | (refine Qj rfl ?_; simp only [↓reduceIte, QlH]))
        simp only [QN, Qp, Qu, upd, ↓reduceIte, QlJ, QlN]; first | refine Qe (htake _ _) (.keep (.v _)) ⟨by rw [e], rfl⟩ | refine Qe List.take_length (.keep (.v _)) ⟨by rw [e], rfl⟩
    · have e : ofB s = 1 := by rw [ofB, b1, b2]; rfl
      refine Qh Tryz.func150 rfl Tryz.call150 Tryz.ntmps150 (congrArg Array.toList Tryz.results150) (by simp) ?_
      repeat (first | ((first | (with_reducible (first | refine Qa fun K E hK hE => ?_ | refine Qo fun K E hK hE => ?_))); simp -implicitDefEqProofs only [Qd, Qb, Qg, OpW, aop, undef, AS.ev, Qc, Qq, QF, Qk, QD, QlK, ↓reduceIte, Nat.reduceLT, Nat.reduceEqDiff, aBin, QlF, QZ, b1, b2]) | (with_reducible (first | refine Qi fun K hK => ?_ | refine Qm ?_ | refine Qn ?_ | refine Qf ?_ | refine QB ?_ | refine QH ?_)) | ((with_reducible refine hK _ ?_); clear hK) | (refine Qj rfl ?_; simp only [↓reduceIte, QlH]))
      simp only [QN, Qp, Qu, upd, ↓reduceIte, QlJ, QlN]; first | refine Qe (htake _ _) (.keep (.v _)) ⟨by rw [e], rfl⟩ | refine Qe List.take_length (.keep (.v _)) ⟨by rw [e], rfl⟩
  · have e : ofB s = 1 := by rw [ofB, b1]; rfl
    refine Qh Tryz.func150 rfl Tryz.call150 Tryz.ntmps150 (congrArg Array.toList Tryz.results150) (by simp) ?_
    repeat (first | (((with_reducible refine Qa fun K E hK hE => ?_)); simp -implicitDefEqProofs only [Qd, Qb, Qg, OpW, aop, undef, AS.ev, Qc, Qq, QF, Qk, QD, QlK, ↓reduceIte, Nat.reduceLT, Nat.reduceEqDiff, aBin, QlF, QZ, b1]) | (with_reducible (first | refine Qi fun K hK => ?_ | refine Qm ?_ | refine Qn ?_ | refine Qv ?_ | refine Qf ?_ | refine QB ?_ | refine QH ?_)) | ((with_reducible refine hK _ ?_); clear hK) | (refine Qj rfl ?_; simp only [↓reduceIte]))
    simp only [QN, Qp, Qu, upd, ↓reduceIte, QlJ, QlN]; first | refine Qe (htake _ _) (.keep (.v _)) ⟨by rw [e], rfl⟩ | refine Qe List.take_length (.keep (.v _)) ⟨by rw [e], rfl⟩
theorem Qbm (t : T) (hl : t.args.length ≤ maxLen) : Pure Tryz.prog 124 [t.av] (.i t.oper) := by
  intro h
  have c1 := Qil t.name
  have e1 : t.av = .agg [.i t.kind, .i t.int, .v (.string t.name), .sl 4 (avs t.args) none] := by cases t; rfl
  have m1 : ((t.args.length : Int) == 2) = decide (t.args.length = 2) := by
    rw [Bool.eq_iff_iff]; simp; omega
  by_cases hk : t.kind = 2
  · by_cases hn : t.args.length = 2
    · have e : t.oper = ofB t.name := by rw [T.oper, if_neg]; omega
      have m2 : ((t.args.length : Int) != 2) = false := by simp; omega
      refine Qh Tryz.func124 rfl Tryz.call124 Tryz.ntmps124 (congrArg Array.toList Tryz.results124) (by simp) ?_
      rw [e1]
      repeat (first | ((first | (with_reducible (first | refine Qa fun K E hK hE => ?_ | refine Qs c1 ?_))); simp -implicitDefEqProofs only [Qd, Qb, Qg, OpW, QR, aop, undef, AS.ev, Qc, Qq, Qk, QD, QlK, AV.Qk5, Qy, QlX, QlY, QC, QA, QI, QlZ, ↓reduceIte, QlQ, QlR, Nat.reduceAdd, Nat.reduceLT, Nat.reduceEqDiff, QlP, Ql2, Ql, QK, QL, aBin, aLen, QO, QlD, QlE, QlF, QlI, QlG, QlS, QlW, XA, goInt, QlL, Qmo, QlH, QE, ti3, ti9, ti44, un44, Xu, XM, XN, hk, m2, QE]) | (with_reducible (first | refine Qi fun K hK => ?_ | refine Qn ?_ | refine Qv ?_ | refine Qf ?_)) | ((with_reducible refine hK _ ?_); clear hK) | (refine Qj rfl ?_; simp only [↓reduceIte, QlH]))
      simp only [QN, Qp, Qu, upd, ↓reduceIte, QlJ, QlN]; first | refine Qe (htake _ _) (.keep (.v _)) ⟨by rw [e], rfl⟩ | refine Qe List.take_length (.keep (.v _)) ⟨by rw [e], rfl⟩
    · have e : t.oper = 0 := by rw [T.oper, if_pos (.inr hn)]
      have m2 : ((t.args.length : Int) != 2) = true := by simp; omega
      refine Qh Tryz.func124 rfl Tryz.call124 Tryz.ntmps124 (congrArg Array.toList Tryz.results124) (by simp) ?_
      rw [e1]
      repeat (first | (((with_reducible refine Qa fun K E hK hE => ?_)); simp -implicitDefEqProofs only [Qd, Qb, Qg, OpW, aop, undef, AS.ev, Qc, Qq, Qk, QD, QlK, AV.Qk5, Qy, QlX, QlY, QC, QA, QI, QlZ, ↓reduceIte, QlQ, QlR, Nat.reduceAdd, Nat.reduceLT, Nat.reduceEqDiff, QlP, Ql2, Ql, QK, QL, aBin, aLen, QO, QlD, QlE, QlF, QlI, QlG, XA, goInt, QlL, Qmo, QlH, QE, ti3, ti44, un44, Xu, XN, hk, QE, m2]) | (with_reducible (first | refine Qi fun K hK => ?_ | refine Qn ?_ | refine QB ?_)) | ((with_reducible refine hK _ ?_); clear hK) | (refine Qj rfl ?_; simp only [↓reduceIte]))
      simp only [QN, Qp, Qu, upd, ↓reduceIte, QlJ, QlN]; first | refine Qe (htake _ _) (.keep (.v _)) ⟨by rw [e], rfl⟩ | refine Qe List.take_length (.keep (.v _)) ⟨by rw [e], rfl⟩
  · have e : t.oper = 0 := by rw [T.oper, if_pos (.inl hk)]
    have m2 : (t.kind != 2) = true := by simpa using hk
    refine Qh Tryz.func124 rfl Tryz.call124 Tryz.ntmps124 (congrArg Array.toList Tryz.results124) (by simp) ?_
    rw [e1]
    repeat (first | (((with_reducible refine Qa fun K E hK hE => ?_)); simp -implicitDefEqProofs only [Qd, Qb, Qg, OpW, aop, undef, AS.ev, Qc, Qq, Qr, Qk, QD, QlK, AV.Qk5, Qy, QlX, QlY, QC, QA, QI, QlZ, Ql0, ↓reduceIte, QlQ, QlR, Nat.reduceAdd, Nat.reduceLT, Nat.reduceEqDiff, QlP, Ql2, Ql, QK, QL, aBin, QO, QlD, QlE, QlF, QlI, QlG, XA, beq_false, ti3, Xu, m2]) | (with_reducible (first | refine Qi fun K hK => ?_ | refine Qn ?_ | refine QB ?_)) | ((with_reducible refine hK _ ?_); clear hK) | (refine Qj rfl ?_; simp only [↓reduceIte]))
    simp only [QN, Qp, Qu, upd, ↓reduceIte, QlJ, QlN]; first | refine Qe (htake _ _) (.keep (.v _)) ⟨by rw [e], rfl⟩ | refine Qe List.take_length (.keep (.v _)) ⟨by rw [e], rfl⟩
end Go.Proofs.YtenheconhibonaaGreatDoor.Ab
namespace Go.Proofs.YtenheconhibonaaGreatDoor.Ab
abbrev DA := FuncId × List AV
def RelD (c : Cx) (d : DA) (x : Deferred) : Prop := ∃ caps, x.target = .fn (.func d.1) caps ∧ RelL c d.2 (x.args ++ caps)
theorem RelD.ev {c c' : Cx} (hs : St c) (h : Ev c c') {d : DA} {x : Deferred} (hr : RelD c d x) : RelD c' d x :=
  let ⟨caps, e, r⟩ := hr; ⟨caps, e, r.ev hs h⟩
inductive Ent where
  | mark (D : Nat)
  | call (d : DA) (x : Deferred)
def Ent.dfr : Ent → Deferred
  | .mark D => Qhq D
  | .call _ x => x
def Ent.da : Ent → Option DA
  | .mark _ => none
  | .call d _ => some d
def Ent.mk? : Ent → Option Nat
  | .mark D => some D
  | .call _ _ => none
def Ent.ok (c : Cx) (lo : Nat) : Ent → Prop
  | .mark D => lo ≤ D ∧ c.w.heap[D]? = some (.deferred (some [])) ∧ ¬ c.owns D
  | .call d x => RelD c d x
theorem Ent.ok.ev {c c' : Cx} (hs : St c) (h : Ev c c') {lo : Nat} {e : Ent} (hk : e.ok c lo) : e.ok c' lo := by
  cases e with
  | mark D =>
    obtain ⟨h1, h2, h3⟩ := hk
    have hlt := (Array.getElem?_eq_some_iff.1 h2).1
    exact ⟨h1, (h.frame D hlt h3).trans h2, fun ho => h3 (h.owns hlt ho)⟩
  | call d x => exact RelD.ev hs h hk
def DefsOk (c : Cx) (lo : Nat) (ds : List DA) (l : List Deferred) : Prop :=
  ∃ es : List Ent, l = es.map Ent.dfr ∧ ds = es.filterMap Ent.da ∧ (es.filterMap Ent.mk?).Nodup ∧ ∀ e ∈ es, e.ok c lo
theorem DefsOk.ev {c c' : Cx} (hs : St c) (h : Ev c c') {lo : Nat} {ds : List DA} {l : List Deferred} (hd : DefsOk c lo ds l) : DefsOk c' lo ds l :=
  let ⟨es, h1, h2, h3, h4⟩ := hd; ⟨es, h1, h2, h3, fun e he => (h4 e he).ev hs h⟩
theorem Qjv (Ds : List Nat) : (Ds.map Ent.mark).map Ent.dfr = Ds.map Qhq := by rw [List.map_map]; rfl
theorem Qj1 (Ds : List Nat) : (Ds.map Ent.mark).filterMap Ent.da = [] := by
  induction Ds with
  | nil => rfl
  | cons D Ds ih => rw [List.map_cons, List.filterMap_cons, ih]; rfl
theorem QjZ (Ds : List Nat) : (Ds.map Ent.mark).filterMap Ent.mk? = Ds := by
  induction Ds with
  | nil => rfl
  | cons D Ds ih => rw [List.map_cons, List.filterMap_cons, ih]; rfl
theorem DefsOk.marks {c c' : Cx} (hs : St c) (h : Ev c c') {lo : Nat} {ds : List DA} {l l' : List Deferred} (hlo : lo ≤ c.w.heap.size) (hd : DefsOk c lo ds l) (hd' : DefOk c' ⟨c.w.heap.size, l⟩ l') : DefsOk c' lo ds l' := by
  obtain ⟨Ds, f1, f2, f3⟩ := hd'
  obtain ⟨es, e1, e2, e3, e4⟩ := hd
  refine ⟨Ds.map Ent.mark ++ es, ?_, ?_, ?_, ?_⟩
  · rw [f1, List.map_append, Qjv, e1]
  · rw [List.filterMap_append, Qj1, List.nil_append, e2]
  · rw [List.filterMap_append, QjZ, List.nodup_append]
    refine ⟨f2, e3, fun a ha b hb hab => ?_⟩
    subst hab
    have g1 := (f3 a ha).1
    simp only [List.mem_filterMap] at hb
    obtain ⟨e, he, hm⟩ := hb
    cases e with
    | call d x => cases hm
    | mark D =>
      simp only [Ent.mk?, QlJ] at hm
      subst hm
      have := (Array.getElem?_eq_some_iff.1 (e4 _ he).2.1).1
      simp only at g1
      omega
  · intro e he
    rcases List.mem_append.1 he with he | he
    · obtain ⟨D, hD, rfl⟩ := List.mem_map.1 he
      obtain ⟨g1, g2, g3⟩ := f3 D hD
      exact ⟨Nat.le_trans hlo g1, g2, g3⟩
    · exact (e4 e he).ev hs h
structure SRd (N lo : Nat) (c : Cx) (s : AS) (a : Act) (ds : List DA) : Prop where
  h : c.h = s.h
  size : a.tmps.size = N
  above : lo ≤ c.w.heap.size
  defs : DefsOk c lo ds a.defers
  tm : ∀ t, Rel c (s.tm t) (a.tmps.getD t undef)
theorem SRd.sr {N lo : Nat} {c : Cx} {s : AS} {a : Act} {ds : List DA} (h : SRd N lo c s a ds) {F : Fence} (hro : F.round = none) : SR N (⟨c.w.heap.size, a.defers⟩, F) c s a :=
  ⟨h.h, h.size, Nat.le_refl _, ⟨[], rfl, List.nodup_nil, fun D hD => by cases hD⟩, fun l hl => (by rw [hro] at hl; cases hl), h.tm⟩
theorem SRd.Qlq {N lo : Nat} {c c' : Cx} {s s' : AS} {a a' : Act} {ds : List DA} {F : Fence} (hs : St c) (h : SRd N lo c s a ds) (hev : Ev c c') (hr : SR N (⟨c.w.heap.size, a.defers⟩, F) c' s' a') : SRd N lo c' s' a' ds :=
  ⟨hr.h, hr.size, Nat.le_trans h.above hev.size, h.defs.marks hs hev h.above hr.defers, hr.tm⟩
def DefW (P : Program) (N : Nat) (code : Code) (Q : AExit → AS → List DA → Prop) (s : AS) (ds : List DA) : Prop :=
  ∀ (F : Fence) (n lo : Nat) (c : Cx) (a : Act), WF F → F.round = none → St c → SRd N lo c s a ds →
    ∀ R : Exit → Act → World → Prop, (∀ e s' ds' c' a' e', Q e s' ds' → Ev c c' → St c' → SRd N lo c' s' a' ds' → ExC c' e e' → R e' a' c'.w) → code.wpIn F n P R a c.w
section rules
variable {P : Program} {N : Nat} {Q : AExit → AS → List DA → Prop} {s : AS} {ds : List DA}
theorem QbZ {code : Code} (H : Zb P N code (fun e s' => Q e s' ds) s) : DefW P N code Q s ds := by
  intro F n lo c a hF hro hst hr R hR
  refine H F n ⟨c.w.heap.size, a.defers⟩ c a hF hst (hr.sr hro) R fun e s' c' a' e' hQ hev hst' hsr hex => ?_
  exact hR e s' ds c' a' e' hQ hev hst' (hr.Qlq hst hev hsr) hex
def AExit.QlC (K : AS → List DA → Prop) (Q : AExit → AS → List DA → Prop) : AExit → AS → List DA → Prop
  | .normal, s, ds => K s ds
  | e, s, ds => Q e s ds
theorem Qfu {x y : Code} (h : DefW P N x (AExit.QlC (fun s ds => DefW P N y Q s ds) Q) s ds) : DefW P N (.seq x y) Q s ds := by
  intro F n lo c a hF hro hs hr R hR
  refine wpIn_seq (h F n lo c a hF hro hs hr _ ?_)
  intro e s' ds' c' a' e' hQ hev hst hsr hex
  cases e with
  | normal =>
    cases hex
    exact hQ F n lo c' a' hF hro hst hsr R fun e s2 ds2 c2 a2 e2 hQ2 hev2 hst2 hsr2 hex2 => hR e s2 ds2 c2 a2 e2 hQ2 (Ev.trans hs hev hev2) hst2 hsr2 hex2
  | exit id => cases hex; exact hR _ s' ds' c' a' _ hQ hev hst hsr rfl
  | ret => cases hex; exact hR _ s' ds' c' a' _ hQ hev hst hsr rfl
  | panic av => obtain ⟨x, rfl, hx⟩ := hex; exact hR _ s' ds' c' a' _ hQ hev hst hsr ⟨x, rfl, hx⟩
theorem QjC {o : Operand} {x y : Code} {t : Bool} (ho : s.ev o = .v (.bool t)) (h : DefW P N (if t then x else y) Q s ds) : DefW P N (.cond o x y) Q s ds := by
  intro F n lo c a hF hro hs hr R hR
  have he := (hr.sr hro).eval o
  rw [ho] at he
  have hx : a.eval o = .bool t := by
    generalize a.eval o = u at he
    cases he; rfl
  exact wpIn_cond hx (h F n lo c a hF hro hs hr R hR)
theorem QgE {id : Nat} {ops : Array Oper} (i : Nat) {o : Oper} {cl : Call} {f : Operand} (ho : ops.toList[i]? = some o) (hop : o.op = .defer cl) (hcl : cl.callee = .value f)
    (H : OpsW P N ops (ops.toList.take i) (fun s1 => Qg ops s1.tm o = some true ∧ ∃ g first cap, s1.ev f = .fn (.func g) first cap ∧
      OpsW P N ops (ops.toList.drop (i + 1)) (fun s2 => Q .normal s2 ((g, first ++ cl.args.toList.map s1.ev ++ cap) :: ds)) (fun r s2 => Q (.panic r) s2 ((g, first ++ cl.args.toList.map s1.ev ++ cap) :: ds)) (AS.put N s1 o.dst (.v undef)))
      (fun r s1 => Q (.panic r) s1 ds) s) : DefW P N (.region id ops false) Q s ds := by
  intro F n lo c a hF hro hst hr R hR
  refine wpIn_region ?_
  have hlt := QT ho
  have hi : (ops.toList.take i).length = i := by rw [List.length_take]; omega
  have hrange : List.range ops.size = List.range' 0 (ops.toList.take i).length ++ (i :: (List.range' (i + 1) (ops.toList.drop (i + 1)).length ++ [])) := by
    rw [hi, List.append_nil, List.length_drop, List.range_eq_range', ← Array.length_toList]
    have : ops.toList.length = i + (1 + (ops.toList.length - (i + 1))) := by omega
    conv => lhs; rw [this]
    rw [← List.range'_append_1, Nat.zero_add, ← List.range'_append_1]
    rfl
  have hget : ∀ j, (ops.toList.drop (i + 1))[j]? = ops[i + 1 + j]? := fun j => by rw [List.getElem?_drop]; simp
  rw [hrange]
  refine QeP hF (ops.toList.take i) 0 s c a (fun j hj => by rw [List.getElem?_take, if_pos (by omega)]; simp) H hst (hr.sr hro) ?_ ?_
  · intro s1 c1 a1 h1 h2 h3 h4
    have h0 : ops[i]? = some o := by rw [← ho]; simp
    obtain ⟨hw, g, first, cap, hf, hpost⟩ := h1
    simp only [wpOpsIn, h0]
    rw [Y4 h4 hw]
    simp only [if_true]
    have hr1 := hr.Qlq hst h2 h4
    have hfv := h4.eval f
    rw [hf] at hfv
    obtain ⟨vs, ws, hae, hv1, hv2⟩ : ∃ vs ws, a1.eval f = .func (.func g) vs ws ∧ RelL c1 first vs ∧ RelL c1 cap ws := by
      generalize a1.eval f = u at hfv
      cases hfv with
      | fn _ _ _ vs ws e1 e2 g1 g2 => exact ⟨vs, ws, rfl, ⟨e1, g1⟩, ⟨e2, g2⟩⟩
    have hargs : RelL c1 (cl.args.toList.map s1.ev) (cl.args.map a1.eval) := by
      refine ⟨by simp, fun j x u hx hu => ?_⟩
      rw [List.getElem?_map] at hx
      rw [Array.getElem?_map] at hu
      cases hj : cl.args[j]? with
      | none => simp [hj] at hu
      | some q =>
        simp only [hj, QlF, QlJ] at hu
        simp only [Array.getElem?_toList, hj, QlF, QlJ] at hx
        subst hx; subst hu
        exact h4.eval q
    have hD : RelD c1 (g, first ++ cl.args.toList.map s1.ev ++ cap) ⟨.fn (.func g) ws, vs ++ cl.args.map a1.eval⟩ := ⟨ws, rfl, RelL.append (RelL.append hv1 hargs) hv2⟩
    have hrun : (execOp a1.eval o).run P c1.w = .ok (.defer ⟨.fn (.func g) ws, vs ++ cl.args.map a1.eval⟩) c1.w := by
      simp only [execOp, hop, resolve, hcl, hae, Deferred.ofValue, Sem.run_bind, Sem.run_pure, Result.andThen_ok]
    refine ⟨fun f _ => hF.fn f, ?_⟩
    rw [hro, Oper.semAt_none, hrun, Oper.uponIn_defer]
    have hput := h4.put h3 (Ev.refl c1) o.dst (.v undef)
    rw [h4.h] at hput
    have hd2 : DefsOk c1 lo ((g, first ++ cl.args.toList.map s1.ev ++ cap) :: ds) (⟨.fn (.func g) ws, vs ++ cl.args.map a1.eval⟩ :: a1.defers) := by
      obtain ⟨es, e1, e2, e3, e4⟩ := hr1.defs
      refine ⟨.call _ ⟨.fn (.func g) ws, vs ++ cl.args.map a1.eval⟩ :: es, by rw [e1]; rfl, by rw [e2]; rfl, e3, fun e he => ?_⟩
      rcases List.mem_cons.1 he with rfl | he
      · exact hD
      · exact e4 e he
    have hdf : ((({ a1 with defers := ⟨.fn (.func g) ws, vs ++ cl.args.map a1.eval⟩ :: a1.defers } : Act).put o.dst undef)).defers = ⟨.fn (.func g) ws, vs ++ cl.args.map a1.eval⟩ :: a1.defers := by
      cases o.dst <;> rfl
    have htm : ((({ a1 with defers := ⟨.fn (.func g) ws, vs ++ cl.args.map a1.eval⟩ :: a1.defers } : Act).put o.dst undef)).tmps = (a1.put o.dst undef).tmps := by
      cases o.dst <;> rfl
    have hr2 : SRd N lo c1 (AS.put N s1 o.dst (.v undef)) (({ a1 with defers := ⟨.fn (.func g) ws, vs ++ cl.args.map a1.eval⟩ :: a1.defers } : Act).put o.dst undef) ((g, first ++ cl.args.toList.map s1.ev ++ cap) :: ds) :=
      ⟨hput.h, by rw [htm]; exact hput.size, hr1.above, by rw [hdf]; exact hd2, fun t => by rw [htm]; exact hput.tm t⟩
    refine QeP hF _ (i + 1) _ c1 _ (fun j _ => hget j) hpost h3 (hr2.sr hro) ?_ ?_
    · intro s' c' a' hQ k1 k2 k3
      simp only [wpOpsIn]
      exact hR _ s' _ c' a' _ hQ (Ev.trans hst h2 k1) k2 (hr2.Qlq h3 k1 k3) rfl
    · intro r s' c' a' x hQ k1 k2 k3 hx
      exact hR _ s' _ c' a' _ hQ (Ev.trans hst h2 k1) k2 (hr2.Qlq h3 k1 k3) ⟨x, rfl, hx⟩
  · intro r s' c' a' x hQ h1 h2 h3 hx
    exact hR _ s' ds c' a' _ hQ h1 h2 (hr.Qlq hst h1 h3) ⟨x, rfl, hx⟩
end rules
inductive AMode where
  | ret
  | pan (v : AV) (recovered : Bool)
def MdC (c : Cx) : AMode → FrameMode → Prop
  | .ret, u => u = .returning
  | .pan v b, u => ∃ x, u = .panicking [{ v := x, recovered := b }] ∧ Rel c v x
theorem MdC.ev {c c' : Cx} (hs : St c) (h : Ev c c') {m : AMode} {u : FrameMode} (hm : MdC c m u) : MdC c' m u := by
  cases m with
  | ret => exact hm
  | pan v b => obtain ⟨x, e, r⟩ := hm; exact ⟨x, e, r.ev hs h⟩
theorem MdC.run {c : Cx} {m : AMode} {u : FrameMode} (hm : MdC c m u) : u ≠ .run := by
  cases m with
  | ret => rw [show u = .returning from hm]; simp
  | pan v b => obtain ⟨x, e, r⟩ := hm; rw [e]; simp
def AMode.settle : AMode → AMode
  | .pan _ true => .ret
  | m => m
theorem MdC.settle {c : Cx} {m : AMode} {u : FrameMode} (hm : MdC c m u) : MdC c m.settle (Go.settle u) := by
  cases m with
  | ret => rw [show u = .returning from hm]; rfl
  | pan v b =>
    obtain ⟨x, rfl, r⟩ := hm
    cases b with
    | true => rfl
    | false => exact ⟨x, rfl, r⟩
def Qb9 (P : Program) (f : FuncId) (args : List AV) (h : AH) (m : AMode) (Q : AMode → AH → Prop) : Prop :=
  (∀ vals w, (callFunc f vals).run P w = .ok (.enter f vals) w) ∧
  ∀ (F : Fence) (n : Nat) (c : Cx) (vals : Array Value) (u : FrameMode), WF F → F.round = none → St c → c.h = h → RelL c args vals → MdC c m u →
    CallsDIn F n P f vals u c.w fun e u' w' => ∃ x m' c', e = .returned x ∧ Q m' c'.h ∧ Ev c c' ∧ St c' ∧ c'.w = w' ∧ MdC c' m' u'
def Qhj (P : Program) (rs : List ResultVar) (h : AH) (Q : AOut → AH → Prop) : List DA → AMode → AS → Prop
  | [], .ret, s => QN P rs h Q .ret s
  | [], .pan v _, s => QN P rs h Q (.panic v) s
  | d :: ds, m, s => Qb9 P d.1 d.2 s.h m fun m' h' => Qhj P rs h Q ds m'.settle ⟨s.tm, h'⟩
structure Out (N : Nat) (c : Cx) (s : AS) (tmps : Array Value) : Prop where
  h : c.h = s.h
  size : tmps.size = N
  tm : ∀ t, Rel c (s.tm t) (tmps.getD t undef)
theorem Qbq {P : Program} {F : Fence} (hF : WF F) (hro : F.round = none) {n : Nat} {fn : Func} {tmps : Array Value} {rs : List ResultVar} (hrs : fn.results.toList = rs) {Q : AOut → AH → Prop} {c0 : Cx} (hs0 : St c0) :
    ∀ (es : List Ent) (c : Cx) (s : AS) (m : AMode) (u : FrameMode), Ev c0 c → St c → Out fn.ntmps c s tmps → (es.filterMap Ent.mk?).Nodup → (∀ e ∈ es, e.ok c c0.w.heap.size) → MdC c m u → (∀ v, m ≠ .pan v true) →
      Qhj P rs c0.h Q (es.filterMap Ent.da) m s →
      LeavesInM F n P fn tmps (fun e w' => ∃ o c', Q o c'.h ∧ Ev c0 c' ∧ St c' ∧ c'.w = w' ∧ EndC c' o e) (es.map Ent.dfr) u c.w
  | [], c, s, m, u, hev, hst, hout, _, _, hm, hnr, H => by
    have hsr : SR fn.ntmps (⟨0, []⟩, F) c s { tmps := tmps, defers := [] } := ⟨hout.h, hout.size, Nat.zero_le _, ⟨[], rfl, List.nodup_nil, fun D h => by cases h⟩, fun l hl => (by rw [hro] at hl; cases hl), hout.tm⟩
    cases m with
    | ret =>
      rw [show u = .returning from hm]
      obtain ⟨r, hres, hl⟩ := (show QN P rs c0.h Q .ret s from H)
      subst hrs
      obtain ⟨x, hrun, hx⟩ := QaC hst hsr hres
      rw [← hout.h] at hl
      obtain ⟨c3, r', h1, h2, h3, h4, h5⟩ := ZP hs0 hst hev hx hl
      exact ⟨x, hrun, .ret r', c3, h1, h2, h3, h4, x, rfl, h5⟩
    | pan v b =>
      obtain ⟨x, rfl, hx⟩ := hm
      have hl : Leaves c0.h s.h v fun r h' => Q (.panic r) h' := H
      rw [← hout.h] at hl
      obtain ⟨c3, r', h1, h2, h3, h4, h5⟩ := ZP hs0 hst hev hx hl
      cases b with
      | true => exact absurd rfl (hnr v)
      | false => exact ⟨.panic r', c3, h1, h2, h3, h4, x, rfl, h5⟩
  | .mark D :: es, c, s, m, u, hev, hst, hout, hnd, hok, hm, hnr, H => by
    obtain ⟨hD1, hD2, hD3⟩ := hok (.mark D) (by simp)
    simp only [QlS, LeavesInM]
    refine ⟨hm.run, .inl ⟨D, _, rfl, ZC hD2, ?_⟩⟩
    have hnd' := List.nodup_cons.1 (show (D :: es.filterMap Ent.mk?).Nodup from hnd)
    have hold : ∀ k, k ≠ D → ({ c.w with heap := c.w.heap.setIfInBounds D (.deferred none) } : World).heap[k]? = c.w.heap[k]? := fun k hk => by
      show (c.w.heap.setIfInBounds D _)[k]? = _
      rw [Array.getElem?_setIfInBounds_ne (fun e => hk e.symm)]
    have hsz : ({ c.w with heap := c.w.heap.setIfInBounds D (.deferred none) } : World).heap.size = c.w.heap.size := by simp
    have hidle : ∀ k, ({ c.w with heap := c.w.heap.setIfInBounds D (.deferred none) } : World).heap[k]? = c.w.heap[k]? ∨ (c0.w.heap.size ≤ k ∧ ¬ c.owns k ∧ ∃ o, c.w.heap[k]? = some (.deferred o)) := fun k => by
      by_cases hk : k = D
      · subst hk; exact .inr ⟨hD1, hD3, _, hD2⟩
      · exact .inl (hold k hk)
    have hcells : ∀ (k : Nat) cs t fr, c.w.heap[k]? = some (Obj.cells cs t fr) → ({ c.w with heap := c.w.heap.setIfInBounds D (.deferred none) } : World).heap[k]? = c.w.heap[k]? := fun k cs t fr hk => by
      rcases hidle k with h | ⟨_, _, o, h⟩
      · exact h
      · rw [hk] at h; cases h
    have hst2 := hst.idle hsz fun k o hk => by
      rcases hidle k with h | ⟨_, _, d, h⟩
      · exact .inl (h.trans hk)
      · rw [hk] at h; cases h; exact .inr ⟨d, rfl⟩
    have hrel : ∀ a x, Rel c a x → Rel (c.to { c.w with heap := c.w.heap.setIfInBounds D (.deferred none) }) a x := fun a x hax => hax.idle hsz hcells
    refine Qbq hF hro hrs hs0 es (c.to _) s m u (Ev.idle hst hev rfl rfl rfl hsz hidle) hst2 ⟨hout.h, hout.size, fun t => hrel _ _ (hout.tm t)⟩ hnd'.2 (fun e he => ?_) ?_ hnr H
    · have := hok e (by simp [he])
      cases e with
      | mark D' =>
        obtain ⟨g1, g2, g3⟩ := this
        have hne : D' ≠ D := fun h => hnd'.1 (by subst h; exact List.mem_filterMap.2 ⟨_, he, rfl⟩)
        exact ⟨g1, (hold D' hne).trans g2, g3⟩
      | call d x =>
        obtain ⟨caps, e, r⟩ := this
        exact ⟨caps, e, r.1, fun j a u h1 h2 => hrel _ _ (r.2 j a u h1 h2)⟩
    · cases m with
      | ret => exact hm
      | pan v b => obtain ⟨x, e, r⟩ := hm; exact ⟨x, e, hrel _ _ r⟩
  | .call d x :: es, c, s, m, u, hev, hst, hout, hnd, hok, hm, hnr, H => by
    obtain ⟨caps, htar, hargs⟩ := hok (.call d x) (by simp)
    obtain ⟨hcall, hbody⟩ := (show Qb9 P d.1 d.2 s.h m fun m' h' => Qhj P rs c0.h Q (es.filterMap Ent.da) m'.settle ⟨s.tm, h'⟩ from H)
    simp only [QlS, LeavesInM, Ent.dfr]
    refine ⟨hm.run, .inr ⟨fun hd => by simp [hF.depth] at hd, _, _, d.1, x.args ++ caps, htar, by rw [htar]; simp only [invoke, hcall], fun _ _ => hF.fn _, ?_⟩⟩
    refine (hbody F (n - 1) c _ u hF hro hst hout.h hargs hm).mono ?_
    rintro e u' w' ⟨y, m', c', rfl, hQ, hev', hst', rfl, hm'⟩
    refine Qbq hF hro hrs hs0 es c' ⟨s.tm, c'.h⟩ m'.settle (Go.settle u') (Ev.trans hs0 hev hev') hst' ⟨rfl, hout.size, fun t => (hout.tm t).ev hst hev'⟩ hnd (fun e he => (hok e (by simp [he])).ev hst hev') hm'.settle (fun v h => ?_) hQ
    cases m' with
    | ret => cases h
    | pan v' b => cases b <;> cases h
def QkH (P : Program) (rs : List ResultVar) (h : AH) (Q : AOut → AH → Prop) : AExit → AS → List DA → Prop
  | .normal, s, ds | .ret, s, ds => Qhj P rs h Q ds .ret s
  | .panic v, s, ds => Qhj P rs h Q ds (.pan v false) s
  | .exit _, _, _ => False
theorem Qd4 {P : Program} {f : FuncId} {fn : Func} {code : Code} {args : List AV} {h : AH} {Q : AOut → AH → Prop} (hf : P.funcs[f]? = some fn) (hb : fn.body = some code)
    (hcall : ∀ vals w, (callFunc f vals).run P w = .ok (.enter f vals) w) {N : Nat} (hN : fn.ntmps = N) {rs : List ResultVar} (hrs : fn.results.toList = rs) (hn : args.length ≤ N) (H : DefW P N code (QkH P rs h Q) ⟨QD args, h⟩ []) : Yd P f args h Q := by
  subst hN
  refine ⟨hcall, fun F n c vals hF hs hh hvals => QaI ?_⟩
  subst hh
  refine callsIn_of_wp_marks hf hb (hF.plain.fn f) ?_
  have hsr : SRd fn.ntmps c.w.heap.size c ⟨QD args, c.h⟩ { tmps := vals ++ Array.replicate (fn.ntmps - vals.size) undef, defers := [] } [] := by
    refine ⟨rfl, by have := hvals.1; simp; omega, Nat.le_refl _, ⟨[], rfl, rfl, List.nodup_nil, fun e h => by cases h⟩, fun t => ?_⟩
    simp only [QD]
    rw [Array.getD_eq_getD_getElem?, Array.getElem?_append, List.getD_eq_getElem?_getD]
    have hsz := hvals.1
    by_cases ht : t < vals.size
    · rw [if_pos ht]
      obtain ⟨u, hu⟩ : ∃ u, vals[t]? = some u := ⟨_, Array.getElem?_eq_getElem ht⟩
      obtain ⟨a, ha⟩ : ∃ a, args[t]? = some a := ⟨_, List.getElem?_eq_getElem (by omega)⟩
      rw [hu, ha]
      exact hvals.2 t a u ha hu
    · rw [if_neg ht, List.getElem?_eq_none (by omega), Array.getElem?_replicate]
      split
      · exact .v _
      · exact .v _
  refine H F.plain n c.w.heap.size c _ hF.plain rfl hs hsr _ ?_
  intro e s' ds' c' a' e' hQ hev hst hr hex
  obtain ⟨es, e1, e2, e3, e4⟩ := hr.defs
  subst e2
  have hout : Out fn.ntmps c' s' a'.tmps := ⟨hr.h, hr.size, hr.tm⟩
  have key := fun (m : AMode) (u : FrameMode) (hm : MdC c' m u) (hnr : ∀ v, m ≠ .pan v true) H => e1 ▸ Qbq (P := P) hF.plain rfl (n := n) (fn := fn) (tmps := a'.tmps) hrs (Q := Q) hs es c' s' m u hev hst hout e3 e4 hm hnr H
  cases e with
  | normal => cases hex; exact key .ret .returning rfl (fun v h => by cases h) hQ
  | ret => cases hex; exact key .ret .returning rfl (fun v h => by cases h) hQ
  | panic av =>
    obtain ⟨x, rfl, hx⟩ := hex
    exact key (.pan av false) _ ⟨x, rfl, hx⟩ (fun v h => by cases h) hQ
  | exit id => exact hQ.elim
theorem Qa9 {P : Program} {F : Fence} {n : Nat} {fn : Func} {tmps : Array Value} {R : Ending → World → Prop} : ∀ (ds : List Deferred) (u : FrameMode) (w : World) (fr : Frame)
    (cs : List Frame), fr.mode = u → fr.defers = ds → fr.tmps = tmps → P.funcs[fr.fn]? = some fn → fr.kind = .deferred → F.fn fr.fn → F.room (cs.length + 1 + n) → LeavesInM F n P fn tmps R ds u w →
    ∃ e w' fr', R e w' ∧ ComesIn (Machine.fenced P F) P (lone fr cs w) (lone fr' cs w') e ∧ fr'.fn = fr.fn ∧ fr'.kind = .deferred ∧ fr'.going P w' e := by
  intro ds
  induction ds with
  | nil =>
    intro u w fr cs hu hd ht hf hk _ _ h
    cases u with
    | run => exact h.elim
    | returning =>
      obtain ⟨v, hr, hR⟩ := h
      exact ⟨.returned v, w, fr, hR, StepsIn.refl _, rfl, hk, hu, hd, fn, hf, ht ▸ hr⟩
    | panicking chain => exact ⟨.panicked chain, w, fr, h, StepsIn.refl _, rfl, hk, hu, hd, fn, hf⟩
  | cons d ds ih =>
    intro u w fr cs hu hd ht hf hk hb hroom h
    obtain ⟨hrun, h⟩ := h
    rcases h with ⟨r, w', htar, htake, hrest⟩ | ⟨hn, fv, cap, f, args, htar, hinv, hlead, hFf, hcall⟩
    · have h1 := step_collected (cs := cs) (hu ▸ hrun) hd htar htake
      have i1 : (lone fr cs w).fenced P F := fenced_out hb hroom (hu ▸ hrun) hd (fun g hg => by rw [htar] at hg; simp [Target.leads] at hg)
      obtain ⟨e', w'', fr', hR', hs', hfn', hl'⟩ := ih u w' { fr with defers := [] ++ ds } cs hu rfl ht hf hk hb hroom hrest
      exact ⟨e', w'', fr', hR', ComesIn.of_steps (.one i1 h1) hs', hfn', hl'⟩
    · have h1 := step_defer (cs := cs) (hu ▸ hrun) hd htar hinv
      have i1 : (lone fr cs w).fenced P F := fenced_out hb hroom (hu ▸ hrun) hd hlead
      have hroom' : F.room (({ fr with defers := ds } :: cs).length + 1 + (n - 1)) := Fence.room_enter hroom hn
      obtain ⟨e, u', w', frX, hR, hsteps, hkX, hfX, hgo⟩ := hcall { fr with defers := ds } cs hu hroom'
      cases e with
      | outgrown => exact ⟨.outgrown, w', fr, hR, Outgrown.of_steps (.one h1) hsteps, rfl, hk, trivial⟩
      | returned v =>
        have i2 : (lone frX ({ { fr with defers := ds } with mode := u' } :: cs) w').fenced P F := fenced_going (n := n - 1) (hfX ▸ hFf) hroom' hgo
        have h2 := step_going_returned (c := { { fr with defers := ds } with mode := u' }) (cs := cs) hkX hgo
        obtain ⟨e', w'', fr', hR', hs', hfn', hl'⟩ := ih (Go.settle u') w' { { { fr with defers := ds } with mode := u' } with mode := Go.settle u' } cs rfl rfl ht hf hk hb hroom hR
        exact ⟨e', w'', fr', hR', ComesIn.of_steps (.head i1 h1 (StepsIn.trans hsteps (.one i2 h2))) hs', hfn', hl'⟩
      | panicked chain =>
        have i2 : (lone frX ({ { fr with defers := ds } with mode := u' } :: cs) w').fenced P F := fenced_going (n := n - 1) (hfX ▸ hFf) hroom' hgo
        have h2 := step_going_panicked (c := { { fr with defers := ds } with mode := u' }) (cs := cs) hgo
        obtain ⟨e', w'', fr', hR', hs', hfn', hl'⟩ := ih (raised u' chain) w' { { { fr with defers := ds } with mode := u' } with mode := raised u' chain } cs rfl rfl ht hf hk hb hroom hR
        exact ⟨e', w'', fr', hR', ComesIn.of_steps (.head i1 h1 (StepsIn.trans hsteps (.one i2 h2))) hs', hfn', hl'⟩
theorem Qbw {P : Program} {F : Fence} {n : Nat} {f : FuncId} {fn : Func} {c : Code} {args : Array Value} {u : FrameMode} {w : World} {R : Ending → World → Prop}
    (hf : P.funcs[f]? = some fn) (hb : fn.body = some c) (hF : F.fn f)
    (h : c.wpIn F n P (bodyPostM F n P fn R) { tmps := args ++ Array.replicate (fn.ntmps - args.size) undef, defers := [] } w) (hro : F.round = none) :
    CallsDIn F n P f args u w fun e u' w' => u' = u ∧ R e w' := by
  refine ⟨hF, fun c₀ cs hu hr => ?_⟩
  let b : Frame := { (default : Frame) with fn := f, kind := .deferred, roundOf := none }
  have henter : Frame.enter P f args .deferred =
      b.atR { tmps := args ++ Array.replicate (fn.ntmps - args.size) undef, defers := [] } [.code c] := by
    simp [Frame.enter, Frame.atR, hf, hb, b]
  have hc : ({ c₀ with mode := u } : Frame) = c₀ := by subst hu; rfl
  obtain ⟨e, a', w', hq, harr⟩ := h b [] (c₀ :: cs) hro.symm hF hr
  rw [← henter] at harr
  cases e with
  | normal =>
    obtain ⟨e', w'', fr', hR, hs, hfn, hk, hl⟩ := Qa9 a'.defers .returning w' { b.atR a' [] with mode := .returning } (c₀ :: cs) rfl rfl rfl hf rfl hF hr hq
    exact ⟨e', u, w'', fr', ⟨rfl, hR⟩, (by rw [hc]; exact ComesIn.of_steps (StepsIn.trans harr (.one (fenced_calm (fr := b.atR a' []) hF hr rfl) (stepR_end rfl))) hs), hk, hfn, hl⟩
  | ret =>
    obtain ⟨todo, hs₀⟩ := harr.1 rfl
    obtain ⟨e', w'', fr', hR, hs, hfn, hk, hl⟩ := Qa9 a'.defers .returning w' { b.atR a' todo with mode := .returning } (c₀ :: cs) rfl rfl rfl hf rfl hF hr hq
    exact ⟨e', u, w'', fr', ⟨rfl, hR⟩, (by rw [hc]; exact ComesIn.of_steps hs₀ hs), hk, hfn, hl⟩
  | panic chain =>
    obtain ⟨todo, hs₀⟩ := harr
    obtain ⟨e', w'', fr', hR, hs, hfn, hk, hl⟩ := Qa9 a'.defers (.panicking chain) w' { b.atR a' todo with mode := .panicking chain } (c₀ :: cs) rfl rfl rfl hf rfl hF hr hq
    exact ⟨e', u, w'', fr', ⟨rfl, hR⟩, (by rw [hc]; exact ComesIn.of_steps hs₀ hs), hk, hfn, hl⟩
  | exit id => exact hq.elim
  | goto l => exact hq.elim
  | outgrown => exact ⟨.outgrown, u, w', b, ⟨rfl, hq⟩, harr.resolve_left (by simp [b]), rfl, rfl, trivial⟩
theorem Qdt {P : Program} {f : FuncId} {fn : Func} {code : Code} {args : List AV} {h : AH} {Q : AH → Prop} (hf : P.funcs[f]? = some fn) (hb : fn.body = some code)
    (hcall : ∀ vals w, (callFunc f vals).run P w = .ok (.enter f vals) w) {N : Nat} (hN : fn.ntmps = N) {rs : List ResultVar} (hrs : fn.results.toList = rs) (hn : args.length ≤ N)
    (H : DefW P N code (QkH P rs h fun o h' => (∃ r, o = .ret r) ∧ Q h') ⟨QD args, h⟩ []) (m : AMode) : Qb9 P f args h m fun m' h' => m' = m ∧ Q h' := by
  subst hN
  refine ⟨hcall, fun F n c vals u hF hro hs hh hvals hm => ?_⟩
  subst hh
  refine (Qbw (R := fun e w' => ∃ (o : AOut) (c' : Cx), ((∃ r, o = AOut.ret r) ∧ Q c'.h) ∧ Ev c c' ∧ St c' ∧ c'.w = w' ∧ EndC c' o e) hf hb (hF.fn f) ?_ hro).mono ?_
  · have hsr : SRd fn.ntmps c.w.heap.size c ⟨QD args, c.h⟩ { tmps := vals ++ Array.replicate (fn.ntmps - vals.size) undef, defers := [] } [] := by
      refine ⟨rfl, by have := hvals.1; simp; omega, Nat.le_refl _, ⟨[], rfl, rfl, List.nodup_nil, fun e h => by cases h⟩, fun t => ?_⟩
      simp only [QD]
      rw [Array.getD_eq_getD_getElem?, Array.getElem?_append, List.getD_eq_getElem?_getD]
      have hsz := hvals.1
      by_cases ht : t < vals.size
      · rw [if_pos ht]
        obtain ⟨u, hu⟩ : ∃ u, vals[t]? = some u := ⟨_, Array.getElem?_eq_getElem ht⟩
        obtain ⟨a, ha⟩ : ∃ a, args[t]? = some a := ⟨_, List.getElem?_eq_getElem (by omega)⟩
        rw [hu, ha]
        exact hvals.2 t a u ha hu
      · rw [if_neg ht, List.getElem?_eq_none (by omega), Array.getElem?_replicate]
        split
        · exact .v _
        · exact .v _
    refine H F n c.w.heap.size c _ hF hro hs hsr _ ?_
    intro e s' ds' c' a' e' hQ hev hst hr hex
    obtain ⟨es, e1, e2, e3, e4⟩ := hr.defs
    subst e2
    have hout : Out fn.ntmps c' s' a'.tmps := ⟨hr.h, hr.size, hr.tm⟩
    have key := fun (m : AMode) (u : FrameMode) (hm : MdC c' m u) (hnr : ∀ v, m ≠ .pan v true) H => e1 ▸ Qbq (P := P) hF hro (n := n) (fn := fn) (tmps := a'.tmps) hrs (Q := fun o h' => (∃ r, o = AOut.ret r) ∧ Q h') hs es c' s' m u hev hst hout e3 e4 hm hnr H
    cases e with
    | normal => cases hex; exact key .ret .returning rfl (fun v h => by cases h) hQ
    | ret => cases hex; exact key .ret .returning rfl (fun v h => by cases h) hQ
    | panic av =>
      obtain ⟨x, rfl, hx⟩ := hex
      exact key (.pan av false) _ ⟨x, rfl, hx⟩ (fun v h => by cases h) hQ
    | exit id => exact hQ.elim
  · rintro e u' w' ⟨rfl, o, c', ⟨⟨r, rfl⟩, hQ⟩, hev, hst', rfl, x, rfl, hx⟩
    exact ⟨x, m, c', rfl, ⟨rfl, hQ⟩, hev, hst', rfl, hm.ev hs hev⟩
theorem Qd0 {P : Program} {f : FuncId} {fn : Func} {code : Code} {args : List AV} {h : AH} {Q : AH → Prop} (hf : P.funcs[f]? = some fn) (hb : fn.body = some code)
    (hcall : ∀ vals w, (callFunc f vals).run P w = .ok (.enter f vals) w) {N : Nat} (hN : fn.ntmps = N) {rs : List ResultVar} (hrs : fn.results.toList = rs) (hn : args.length ≤ N)
    (H : Zb P N code (QN P rs h fun o h' => (∃ r, o = .ret r) ∧ Q h') ⟨QD args, h⟩) (m : AMode) : Qb9 P f args h m fun m' h' => m' = m ∧ Q h' :=
  Qdt hf hb hcall hN hrs hn (QbZ (H.mono fun e s hq => by cases e <;> exact hq)) m
end Go.Proofs.YtenheconhibonaaGreatDoor.Ab
set_option maxRecDepth 4000
namespace Go.Proofs.YtenheconhibonaaGreatDoor.Ab
open Go.Proofs
def HB (h : AH) (i j : Nat) (u : Bool) (tx : ByteArray) : AH := hs2 h i (bw 138 i j u tx) j (.grow 5 1 tx.size)
theorem wTy : BTy 138 := .inr rfl
abbrev lpa : ByteArray := { data := #[40] }
abbrev rpa : ByteArray := { data := #[41] }
def encB (b : Bool) (x : ByteArray) : ByteArray := if b then lpa ++ x ++ rpa else x
theorem Qb9.mono {P : Program} {f : FuncId} {args : List AV} {h : AH} {m : AMode} {Q Q' : AMode → AH → Prop} (H : Qb9 P f args h m Q) (hq : ∀ m' h', Q m' h' → Q' m' h') : Qb9 P f args h m Q' :=
  ⟨H.1, fun F n c vals u hF hro hs hh hvals hm => (H.2 F n c vals u hF hro hs hh hvals hm).mono fun e u' w' ⟨x, m', c', h1, h2, h3⟩ => ⟨x, m', c', h1, hq _ _ h2, h3⟩⟩
theorem Qe3 {h : AH} {i j : Nat} (hi : i < h.length) (hj : j < h.length) (hij : i ≠ j) (u : Bool) (tx : ByteArray) (b : UInt8) (hs : tx.size < 140737488355328) (m : AMode) :
    Qb9 Tryz.prog 149 [.ptr i 0 0, .v (.int .u8 (b.toNat : Nat))] (HB h i j u tx) m fun m' h' => m' = m ∧ h' = HB h i j true (tx ++ { data := #[b] }) := by
  have f1 := fun x y => Zl h i x j y
  have f2 := fun x y => Zs (h := h) hi hij x y
  have f3 := fun x y z => Qc9 (h := h) (i := i) (j := j) hij x y z
  have f5 := fun x y z => Qde (h := h) (i := i) (j := j) x y z
  have f7 := fun x y => Qbs (h := h) (i := i) hj x y
  have c1 := QaA wTy hij u tx h hi hj
  have e1 : XF (tx ++ { data := #[b] }) = XF tx ++ [.v (.int .u8 (b.toNat : Nat))] := Qak tx _
  have e2 : (tx ++ ({ data := #[b] } : ByteArray)).size = tx.size + 1 := Qt _ _
  have hs' : tx.size + 1 ≤ 140737488355328 := hs
  have hm : tx.size + 1 ≤ maxLen := by simp only [maxLen]; omega
  refine Qd0 Tryz.func149 rfl Tryz.call149 Tryz.ntmps149 (congrArg Array.toList Tryz.results149) (by simp) ?_ m
  rw [HB, HB, bw1, e1, e2]
  repeat (first | ((first | (with_reducible (first | refine Qa fun K E hK hE => ?_ | refine FunW.ret (FunW.call c1) ?_))); simp -implicitDefEqProofs only [Qd, Qb, Qg, OpW, QR, aop, undef, AS.ev, Qc, QY, Xn, Qk, QD, QlK, Ql3, AV.Qk5, Qy, Q6, Xs, QM, XJ, QlX, QlY, QC, QI, QlZ, ↓reduceIte, QlQ, QlR, Nat.reduceAdd, Nat.reduceLT, Nat.reduceLeDiff, Nat.reduceEqDiff, QlP, Qmb, Ql, QK, QL, Xj, Q0, Q7, YV, Ze, QlD, QlE, Ql7, QlF, QlS, QlW, Ql5, Ql4, Ql6, QlO, QlV, QlM, QlU, QlL, QlH, rng1, Xa, Nat.reducePow, zi5, ti72, ei72, ai72, Qgv, Q5, f2, f3, f5, f7, bw1, YC, hm, hs', Nat.mul_one]) | (with_reducible refine Qn ?_) | ((with_reducible refine hK _ ?_); clear hK))
  simp -implicitDefEqProofs only [Qk, ↓reduceIte, QlJ, QN, Qp, Qu, QlN]
  exact .inr ⟨⟨_, rfl⟩, rfl⟩
theorem QaR {h : AH} {i j : Nat} (hi : i < h.length) (hj : j < h.length) (hij : i ≠ j) (need u : Bool) (tx body : ByteArray) {fv r : AV} (hs : tx.size + (encB need body).size ≤ 140737488355328)
    (hw : FunW Tryz.prog fv [] (HB h i j (u || need) (if need then tx ++ lpa else tx)) fun o h' => o = .ret r ∧ h' = HB h i j true ((if need then tx ++ lpa else tx) ++ body)) :
    Yd Tryz.prog 122 [.ptr i 0 0, .b need, fv] (HB h i j u tx) fun o h' => o = .ret (.tup []) ∧ h' = HB h i j true (tx ++ encB need body) := by
  have f2 := fun x y => Zs (h := h) hi hij x y
  have e0 : ∀ u tx, HB h i j u tx = hs2 h i (bw 138 i j u tx) j (.grow 5 1 tx.size) := fun _ _ => rfl
  have f0 : ∀ u tx, (HB h i j u tx)[i]? = some (bw 138 i j u tx) := fun u tx => f2 _ _
  have f1 : ∀ u tx, bw 138 i j u tx = .cells 138 2 [.agg [if u then .ptr i 0 0 else .v (.pointer none), .sl 1 (XF tx) (some j)]] := fun _ _ => rfl
  cases need
  · rw [Bool.or_false, if_neg (by decide)] at hw
    refine Qh Tryz.func122 rfl Tryz.call122 Tryz.ntmps122 (congrArg Array.toList Tryz.results122) (by simp) ?_
    repeat (first | ((first | (with_reducible (first | refine Qa fun K E hK hE => ?_ | refine Qo fun K E hK hE => ?_ | refine FunW.ret hw ?_))); simp -implicitDefEqProofs only [Qd, Qb, Qg, OpW, QR, aop, undef, AS.ev, Qc, Qk, QD, QlK, Ql3, ↓reduceIte, Nat.reduceLT, Nat.reduceEqDiff, QlW]) | (with_reducible (first | refine Qi fun K hK => ?_ | refine Qv ?_ | refine Qf ?_)) | ((with_reducible refine hK _ ?_); clear hK) | (refine Qj rfl ?_; simp only [↓reduceIte, QlH]))
    simp -implicitDefEqProofs only [QlF, QlJ, List.mapM_nil, Option.pure_def, QlF, QN, Qp, QlN]
    exact .inr ⟨rfl, rfl⟩
  · rw [Bool.or_true, if_pos rfl] at hw
    have hsz : tx.size + body.size + 2 ≤ 140737488355328 := by
      rw [encB, if_pos rfl, Qt, Qt] at hs
      have : lpa.size = 1 := rfl
      have : rpa.size = 1 := rfl
      omega
    have c1 := Qfa wTy hij u tx 40 (by omega) h hi hj
    rw [← e0, ← e0, show ((UInt8.toNat 40 : Nat) : Int) = 40 from rfl] at c1
    refine Qd4 Tryz.func122 rfl Tryz.call122 Tryz.ntmps122 (congrArg Array.toList Tryz.results122) (by simp) ?_
    refine Qfu (Qfu (QbZ ?_))
    repeat (first | (((with_reducible refine Qo fun K E hK hE => ?_)); simp -implicitDefEqProofs only [Qd, Qb, Qg, OpW, aop, undef, AS.ev, Qc, QD, QlK, Ql3, Nat.reduceLT]) | ((with_reducible refine hK _ ?_); clear hK))
    show DefW _ _ _ _ _ _
    refine QjC rfl (Qfu (QbZ ?_))
    repeat (first | ((first | (with_reducible (first | refine Qo fun K E hK hE => ?_ | refine FunW.ret (FunW.call c1) ?_))); simp -implicitDefEqProofs only [Qd, Qb, Qg, OpW, QR, aop, undef, AS.ev, Qc, Qq, Qk, QD, QlK, ↓reduceIte, Nat.reduceLT, Nat.reduceEqDiff, Ql2, Ql, QlF, QlS, QlW, YO, Q5, f0, f1]) | ((with_reducible refine hK _ ?_); clear hK))
    show DefW _ _ _ _ _ _
    refine QgE 3 rfl rfl rfl ?_
    simp -implicitDefEqProofs only [Qd, Qb, Qg, OpW, aop, undef, AS.ev, Qc, QY, Qq, Qk, QD, QlK, ↓reduceIte, Nat.reduceAdd, Nat.reduceLT, Nat.reduceEqDiff, Ql2, Qmc, Ql, QlF, QlS, QlW, QlO, QlV, QlM, QlU, YO, Q5, f0, f1]
    refine ⟨_, _, _, rfl, ?_⟩
    show DefW _ _ _ _ _ _
    refine QbZ ?_
    repeat (first | ((first | (with_reducible (first | refine Qo fun K E hK hE => ?_ | refine FunW.ret hw ?_))); simp -implicitDefEqProofs only [Qd, Qb, Qg, OpW, QR, aop, undef, AS.ev, Qc, Qk, QD, QlK, Ql3, ↓reduceIte, Nat.reduceLT, Nat.reduceEqDiff, QlW]) | ((with_reducible refine hK _ ?_); clear hK))
    simp only [QkH, Qhj]
    refine Qb9.mono (Qe3 hi hj hij true ((tx ++ lpa) ++ body) 41 (by rw [Qt, Qt]; have : lpa.size = 1 := rfl; omega) .ret) ?_
    rintro m' h' ⟨rfl, rfl⟩
    simp only [AMode.settle, Qhj]
    simp -implicitDefEqProofs only [QlF, QlJ, List.mapM_nil, Option.pure_def, QlF, QN, Qp, QlN]
    exact .inr ⟨rfl, by rw [encB, if_pos rfl, ByteArray.append_assoc, ByteArray.append_assoc, ByteArray.append_assoc]⟩
end Go.Proofs.YtenheconhibonaaGreatDoor.Ab
set_option maxRecDepth 4000
namespace Go.Proofs.YtenheconhibonaaGreatDoor.Ab
open Go.Proofs
abbrev YP : ByteArray := { data := #[44, 32] }
def binT (o : Int) (n : ByteArray) (oa oc : Int) (x y : ByteArray) : ByteArray := (encB ((oa == 1) && (o == 2)) x ++ (({ data := #[32] } : ByteArray) ++ n ++ { data := #[32] })) ++ encB ((oc != 0) && ((oc == 1) || (o == 2))) y
def XV : Bool → List ByteArray → ByteArray
  | _, [] => .empty
  | f, x :: r => (if f then x else YP ++ x) ++ XV false r
def funT (n : ByteArray) (l : List ByteArray) : ByteArray := n ++ encB (decide (0 < l.length)) (XV true l)
mutual
def T.txt : T → ByteArray
  | .mk k i n l => if (T.mk k i n l).oper ≠ 0 then (match l.map T.oper, txts l with
      | [oa, oc], [x, y] => binT (ofB n) n oa oc x y
      | _, _ => .empty) else
    if k = 0 then decZ i else if k = 1 then vOf (decN i.toNat) else funT n (txts l)
def txts : List T → List ByteArray
  | [] => []
  | t :: l => t.txt :: txts l
end
theorem Qjx (l : List T) : txts l = l.map T.txt := by
  induction l with
  | nil => rfl
  | cons t l ih => rw [txts, ih]; rfl
mutual
def T.lex : T → Prop
  | .mk k i n l => (k = 0 → -9223372036854775807 ≤ i ∧ i ≤ 9223372036854775807) ∧ (k = 1 → 0 ≤ i ∧ i ≤ 1048576) ∧ l.length ≤ 1000000 ∧ n.size ≤ 1000000 ∧ lexL l
def lexL : List T → Prop
  | [] => True
  | t :: l => t.lex ∧ lexL l
end
section
variable {h : AH} {i j : Nat} (hi : i < h.length) (hj : j < h.length) (hij : i ≠ j)
theorem Qew (h : AH) (i j : Nat) (u : Bool) (tx : ByteArray) : (HB h i j u tx).length = h.length := Zl _ _ _ _ _
theorem Qdz (h : AH) (i j : Nat) (u : Bool) (tx : ByteArray) (L : AH) : (HB h i j u tx ++ L)[h.length]? = L[0]? := Qkd _ _ _
theorem Qfy (h : AH) (i j : Nat) (u : Bool) (tx : ByteArray) (L : AH) (k : Nat) : (HB h i j u tx ++ L)[h.length + k]? = L[k]? := QiR _ _ _ _
theorem QjH (h : AH) (i j : Nat) (u : Bool) (tx : ByteArray) (z : AB) (L : AH) : (HB h i j u tx ++ L).set h.length z = HB h i j u tx ++ L.set 0 z := QiB _ _ _ _
theorem Qkw (h : AH) (i j : Nat) (u : Bool) (tx : ByteArray) (z : AB) (L : AH) (k : Nat) : (HB h i j u tx ++ L).set (h.length + k) z = HB h i j u tx ++ L.set k z := QhM _ _ _ _ _
include hi hj in
theorem Qhu (u : Bool) (tx : ByteArray) (L : AH) : HB (h ++ L) i j u tx = HB h i j u tx ++ L := Qft hi hj _ _ _
include hi hij in
theorem Qhb (u : Bool) (tx : ByteArray) : (HB h i j u tx)[i]? = some (.cells 138 2 [.agg [if u then .ptr i 0 0 else .v (.pointer none), .sl 1 (XF tx) (some j)]]) := Zs hi hij _ _
include hi hij in
theorem Qda (u : Bool) (tx : ByteArray) (L : AH) : (HB h i j u tx ++ L)[i]? = some (.cells 138 2 [.agg [if u then .ptr i 0 0 else .v (.pointer none), .sl 1 (XF tx) (some j)]]) := Qf7 hi hij _ _ _
theorem QkT {u u' : Bool} {tx tx' : ByteArray} (hij : i ≠ j) (H : XO (HB h i j u tx)) : XO (HB h i j u' tx') := by
  obtain ⟨k, ty, fr, e⟩ := H
  refine ⟨k, ty, fr, ?_⟩
  have hk := QT e
  rw [Qew] at hk
  by_cases h1 : i = k
  · subst h1; rw [HB, Zs hk hij] at e; cases e
  · by_cases h2 : j = k
    · subst h2; rw [HB, Qbs hk] at e; cases e
    · rw [HB, YI _ _ h1 h2] at e ⊢; exact e
theorem Yx {u u' : Bool} {tx tx' : ByteArray} {L : AH} {r r' : AV} {Q : AV → AH → Prop} (hi : i < h.length) (hj : j < h.length) (hij : i ≠ j) (hf : Frz (HB h i j u' tx' ++ L) h.length r r') (hq : Q r' (HB h i j u' tx')) : Leaves (HB h i j u tx) (HB h i j u' tx' ++ L) r Q :=
  Qh1 hij (QjV hi hj) trivial hf hq
end
def Wri (f : FuncId) (args : List AV) (h : AH) (i j : Nat) (u : Bool) (tx add : ByteArray) : Prop :=
  Yd Tryz.prog f args (HB h i j u tx) fun o h' => o = .ret (.tup []) ∧ h' = HB h i j true (tx ++ add)
theorem wstr {h : AH} {i j : Nat} (hi : i < h.length) (hj : j < h.length) (hij : i ≠ j) (u : Bool) (tx s : ByteArray) (hs : tx.size + s.size ≤ 140737488355328) :
    Yd Tryz.prog 35 [.ptr i 0 0, .v (.string s)] (HB h i j u tx) fun o h' => o = .ret (.tup [.i s.size, .v .nilIface]) ∧ h' = HB h i j true (tx ++ s) :=
  Qa3 wTy hij u tx s hs h hi hj
theorem ZN {p : Prop} (h : 2 = 3) : p := by cases h
theorem QiO {G G' : AH} {p q i : Nat} {t a : T} {r : AV} (hp : G[p]? = some (.cells 134 1 [.ptr i 0 0])) (hq : G[q]? = some (.cells 69 4 [t.av])) (ha : t.args[0]? = some a)
    (H : Yd Tryz.prog 86 [.ptr i 0 0, a.av] G fun o h' => o = .ret r ∧ h' = G') :
    Yd Tryz.prog 125 [.ptr p 0 0, .ptr q 0 0] G fun o h' => o = .ret (.tup []) ∧ h' = G' := by
  have e1 : t.av = .agg [.i t.kind, .i t.int, .v (.string t.name), .sl 4 (avs t.args) none] := by cases t; rfl
  have hlt : 0 < t.args.length := QT ha
  have hz : (0 : Int) < t.args.length := by omega
  have hg := Y0 hlt
  have ea : t.args[0] = a := by rw [List.getElem?_eq_getElem hlt] at ha; injection ha
  rw [ea] at hg
  rw [e1] at hq
  refine Qh Tryz.func125 rfl Tryz.call125 Tryz.ntmps125 (congrArg Array.toList Tryz.results125) (by simp) ?_
  repeat (first | ((first | (with_reducible refine XL (FunW.call H) ZN ?_) | (refine XH (id := 0) [(0, 0), (1, 0), (2, 0), (3, 0), (4, 0), (5, 2)] mixed (by kernel_rfl) fun K hK => ?_)); simp -implicitDefEqProofs only [Xk, Xd, Xw, Qg, aop, undef, AS.ev, Qc, Qq, Qk, QD, QlK, Ql3, Qy, Xh, ↓reduceIte, QlQ, QlR, Nat.reduceAdd, Nat.reduceLT, Nat.reduceLeDiff, Nat.reduceEqDiff, QlP, Qmb, Ql, QK, QL, QJ, QlD, QlE, QlF, QlG, QlS, QlW, Int.toNat_zero, T.Qk4, T.Qk6, QE, ti44, ei44, ti69, XN, Qav, Qmq, hp, hq, hz, hg, QE, T.Qk6, T.Qk4]) | ((with_reducible refine hK _ ?_); clear hK))
  simp -implicitDefEqProofs only [QlF, QlJ, List.mapM_nil, Option.pure_def, QlF, QN, Qp, QlN]
  exact .inr ⟨rfl, rfl⟩
theorem Qjf {G G' : AH} {p q i : Nat} {t a : T} {r : AV} (hp : G[p]? = some (.cells 134 1 [.ptr i 0 0])) (hq : G[q]? = some (.cells 69 4 [t.av])) (ha : t.args[1]? = some a)
    (H : Yd Tryz.prog 86 [.ptr i 0 0, a.av] G fun o h' => o = .ret r ∧ h' = G') :
    Yd Tryz.prog 126 [.ptr p 0 0, .ptr q 0 0] G fun o h' => o = .ret (.tup []) ∧ h' = G' := by
  have e1 : t.av = .agg [.i t.kind, .i t.int, .v (.string t.name), .sl 4 (avs t.args) none] := by cases t; rfl
  have hlt : 1 < t.args.length := QT ha
  have hz : (1 : Int) < t.args.length := by omega
  have z1 : (0 : Int) ≤ 1 := by decide
  have hg := Y0 hlt
  have ea : t.args[1] = a := by rw [List.getElem?_eq_getElem hlt] at ha; injection ha
  rw [ea] at hg
  rw [e1] at hq
  refine Qh Tryz.func126 rfl Tryz.call126 Tryz.ntmps126 (congrArg Array.toList Tryz.results126) (by simp) ?_
  repeat (first | ((first | (with_reducible refine XL (FunW.call H) ZN ?_) | (refine XH (id := 0) [(0, 0), (1, 0), (2, 0), (3, 0), (4, 0), (5, 2)] mixed (by kernel_rfl) fun K hK => ?_)); simp -implicitDefEqProofs only [Xk, Xd, Xw, Qg, aop, undef, AS.ev, Qc, Qq, Qk, QD, QlK, Ql3, Qy, Xh, ↓reduceIte, QlQ, QlR, Nat.reduceAdd, Nat.reduceLT, Nat.reduceLeDiff, Nat.reduceEqDiff, QlP, Qmb, Ql, QK, QL, QJ, QlD, QlE, QlF, QlG, QlS, QlW, Int.toNat_one, T.Qk4, T.Qk6, QE, ti44, ei44, ti69, XN, Qav, hp, hq, hz, z1, hg, QE, T.Qk6, T.Qk4]) | ((with_reducible refine hK _ ?_); clear hK))
  simp -implicitDefEqProofs only [QlF, QlJ, List.mapM_nil, Option.pure_def, QlF, QN, Qp, QlN]
  exact .inr ⟨rfl, rfl⟩
theorem Qer (f : Bool) (l : List ByteArray) : ∀ x r, l = x :: r → (XV f l).size = (if f then 0 else 2) + x.size + (XV false r).size := by
  rintro x r rfl
  rw [XV, Qt]
  cases f
  · simp only [QlH, if_false, Qt]; have : YP.size = 2 := rfl; omega
  · simp
theorem QfT {h : AH} {i j : Nat} (hi : i < h.length) (hj : j < h.length) (hij : i ≠ j) (l : List T) {p q : Nat} (hp : p < h.length) (hq : q < h.length) (hpi : i ≠ p) (hpj : j ≠ p) (hqi : i ≠ q) (hqj : j ≠ q)
    (gp : h[p]? = some (.cells 134 1 [.ptr i 0 0])) (gq : h[q]? = some (.cells 44 1 [.sl 4 (avs l) none])) (hl : l.length ≤ 1000000)
    (ih : ∀ t ∈ l, ∀ (h : AH), i < h.length → j < h.length → XO (HB h i j true (.empty)) → ∀ tx : ByteArray, tx.size + t.txt.size ≤ 140737488355328 → Wri 86 [.ptr i 0 0, t.av] h i j true tx t.txt)
    (hG : XO (HB h i j true (.empty))) (tx : ByteArray) (hs : tx.size + (XV true (txts l)).size ≤ 140737488355328) :
    Wri 123 [.ptr q 0 0, .ptr p 0 0] h i j true tx (XV true (txts l)) := by
  have k0 : ∀ u tx L, (HB h i j u tx ++ L)[p]? = some (.cells 134 1 [.ptr i 0 0]) := fun u tx L => by
    rw [List.getElem?_append_left (by rw [Qew]; exact hp), HB, YI _ _ hpi hpj, gp]
  have k1 : ∀ u tx, (HB h i j u tx)[q]? = some (.cells 44 1 [.sl 4 (avs l) none]) := fun u tx => by
    rw [HB, YI _ _ hqi hqj, gq]
  have f1 := Qew h i j
  have f2 := fun u tx L => Qdz h i j u tx L
  have f3 := fun u tx L => Qfy h i j u tx L
  have f4 := fun u tx z L => QjH h i j u tx z L
  have f5 := fun u tx z L => Qkw h i j u tx z L
  have f6 := fun u tx L => Qda (h := h) hi hij u tx L
  refine Qh Tryz.func123 rfl Tryz.call123 Tryz.ntmps123 (congrArg Array.toList Tryz.results123) (by simp) ?_
  repeat (first | (((with_reducible refine Qa fun K E hK hE => ?_)); simp -implicitDefEqProofs only [Qd, Qb, Qg, OpW, aop, undef, AS.ev, Qc, Qq, Qk, QD, QlK, Xs, ↓reduceIte, Nat.reduceLT, QK, QL, aLen, QlD, QlF, goInt, QE, ti44, un44, k1, QE]) | (with_reducible refine Qm ?_) | ((with_reducible refine hK _ ?_); clear hK))
  obtain ⟨I, hI⟩ : ∃ I : Nat → AS → Prop, I = fun m' s => ∃ (k : Nat) (cur : ByteArray), m' = l.length - k ∧ k ≤ l.length ∧ cur ++ XV (decide (k = 0)) (txts (l.drop k)) = tx ++ XV true (txts l) ∧ s.tm 0 = .ptr q 0 0 ∧ s.tm 1 = .ptr p 0 0 ∧ s.tm 4 = .sl 4 (avs l) none ∧ s.tm 5 = .i l.length ∧ s.tm 6 = .i k ∧ (∃ L, s.h = HB h i j true cur ++ L) := ⟨_, rfl⟩; refine Q9 I ?_ (m := l.length) ?_
  · intro m' s hs; rw [hI] at hs; obtain ⟨tm, hp⟩ := s; dsimp only at hs; obtain ⟨k, cur, rfl, hk, he, t0, t1, t4, t5, t6, L, rfl⟩ := hs
    by_cases hlt : k < l.length
    · have hg := Y0 hlt
      have z1 : (k : Int) < l.length := by omega
      have hsz : cur.size + (XV (decide (k = 0)) (txts (l.drop k))).size = tx.size + (XV true (txts l)).size := by rw [← Qt, he, Qt]
      have hd : txts (l.drop k) = (l[k]).txt :: txts (l.drop (k + 1)) := by rw [List.drop_eq_getElem_cons hlt]; rfl
      have hcm : YP.size = 2 := rfl
      rw [hd, XV, Qt] at hsz
      rw [hd, XV] at he
      have gapp := fun (u : Bool) (tx : ByteArray) (L : AH) => Qhu (h := h) (i := i) (j := j) hi hj u tx L
      have glen : ∀ L : AH, i < (h ++ L).length ∧ j < (h ++ L).length := fun L => by rw [List.length_append]; omega
      by_cases hk0 : k = 0
      · rw [decide_eq_true hk0, if_pos rfl] at hsz he
        have z2 : ¬ (k : Int) > 0 := by omega
        have c := ih l[k] (List.getElem_mem hlt) (h ++ (L ++ [AB.cells 69 4 [l[k].av]])) (glen _).1 (glen _).2 (by rw [gapp]; exact HasG.app hG _) cur (by omega)
        rw [Wri, gapp, gapp] at c
        repeat (first | ((first | (with_reducible (first | refine Qa fun K E hK hE => ?_ | refine Qo fun K E hK hE => ?_ | refine FunW.ret (FunW.call c) ?_))); simp -implicitDefEqProofs only [Qd, Qb, Qg, OpW, QR, aop, undef, AS.ev, Qc, QY, Qq, Qk, AV.Qk5, Qy, Xh, QM, QlX, QlY, QC, QA, QP, QI, QlZ, ↓reduceIte, QlQ, QlR, Nat.reduceAdd, Nat.reduceLT, Nat.reduceEqDiff, QlP, Qmb, QK, QL, Xj, Q0, QJ, aBin, QO, Yg, hlen, happ, QlD, Ql7, QlF, QlS, QlW, QW, Q1, Xf, Ql9, Qma, Qmg, Qmf, T.Qk4, T.Qk6, QE, ei44, ti69, zi69, Qav, t1, t4, t5, t6, z1, z2, hg, k0, f1, f3, f5, T.Qk6, T.Qk4]) | (with_reducible (first | refine Qi fun K hK => ?_ | refine Qm ?_ | refine Qv ?_ | refine Qf ?_ | refine Qw ?_)) | ((with_reducible refine hK _ ?_); clear hK) | (refine Qj rfl ?_; simp only [↓reduceIte, QlH]))
        refine XD.mk (m' := l.length - (k + 1)) (by omega) ?_
        rw [hI]
        refine ⟨k + 1, cur ++ (l[k]).txt, rfl, hlt, ?_, t0, t1, t4, t5, ?_, _, rfl⟩
        · rw [decide_eq_false (Nat.succ_ne_zero k), ByteArray.append_assoc]; exact he
        · simp only [upd, ↓reduceIte]
          rw [Xe (by omega)]
      · rw [decide_eq_false hk0, if_neg (by decide), Qt] at hsz
        rw [decide_eq_false hk0, if_neg (by decide)] at he
        have z2 : (k : Int) > 0 := by omega
        have c1 := wstr (h := h ++ (L ++ [AB.cells 69 4 [l[k].av]])) (glen _).1 (glen _).2 hij true cur YP (by omega)
        rw [gapp, gapp] at c1
        have c := ih l[k] (List.getElem_mem hlt) (h ++ (L ++ [AB.cells 69 4 [l[k].av]])) (glen _).1 (glen _).2 (by rw [gapp]; exact HasG.app hG _) (cur ++ YP) (by rw [Qt]; omega)
        rw [Wri, gapp, gapp] at c
        repeat (first | ((first | (with_reducible (first | refine Qa fun K E hK hE => ?_ | refine Qo fun K E hK hE => ?_ | refine FunW.ret (FunW.call c) ?_ | refine FunW.ret (FunW.call c1) ?_))); simp -implicitDefEqProofs only [Qd, Qb, Qg, OpW, QR, aop, undef, AS.ev, Qc, QY, Qq, QF, Qk, AV.Qk5, Qy, Xh, QM, QlX, QlY, QC, QA, QP, QI, QlZ, ↓reduceIte, QlQ, QlR, Nat.reduceAdd, Nat.reduceLT, Nat.reduceEqDiff, QlP, Ql2, Qmb, Ql, QK, QL, Xj, Q0, QJ, aBin, QO, Yg, hlen, happ, QlD, Ql7, QlF, QlS, QlW, QW, Q1, Xf, Ql9, Qmg, Qmf, T.Qk4, T.Qk6, QE, ei44, ti69, zi69, Qav, YO, Q5, t1, t4, t5, t6, z1, z2, hg, k0, f1, f3, f5, f6, T.Qk6, T.Qk4]) | (with_reducible (first | refine Qi fun K hK => ?_ | refine Qm ?_ | refine Qv ?_ | refine Qf ?_ | refine Qw ?_)) | ((with_reducible refine hK _ ?_); clear hK) | (refine Qj rfl ?_; simp only [↓reduceIte]))
        refine XD.mk (m' := l.length - (k + 1)) (by omega) ?_
        rw [hI]
        refine ⟨k + 1, (cur ++ YP) ++ (l[k]).txt, rfl, hlt, ?_, t0, t1, t4, t5, ?_, _, rfl⟩
        · rw [decide_eq_false (Nat.succ_ne_zero k)]; simp only [ByteArray.append_assoc] at he ⊢; exact he
        · simp only [upd, ↓reduceIte]
          rw [Xe (by omega)]
    · have hkn : k = l.length := by omega
      subst hkn
      have z1 : ¬ ((l.length : Nat) : Int) < l.length := by omega
      rw [List.drop_length, txts, XV, ByteArray.append_empty] at he
      repeat (first | (((with_reducible refine Qa fun K E hK hE => ?_)); simp -implicitDefEqProofs only [Qd, Qb, Qg, OpW, aop, AS.ev, Qc, Nat.reduceLT, aBin, QlF, QW, Qma, t5, t6, z1]) | (with_reducible (first | refine Qi fun K hK => ?_ | refine Q2 ?_ | refine QU ?_ | refine QV ?_)) | ((with_reducible refine hK _ ?_); clear hK) | (refine Qj rfl ?_; simp only [↓reduceIte, QlH]))
      simp -implicitDefEqProofs only [QlF, QlJ, List.mapM_nil, Option.pure_def, QlF, QN, Qp, QlN]
      exact Yx hi hj hij (.keep (.tup _ fun x hx => by cases hx)) ⟨rfl, by rw [he]⟩
  · rw [hI]
    exact ⟨0, tx, rfl, by omega, rfl, rfl, rfl, rfl, rfl, rfl, [], (List.append_nil _).symm⟩
theorem QaJ (l : List T) : (txts l).length = l.length := by rw [Qjx, List.length_map]
theorem Z3 {h : AH} {i j : Nat} (hi : i < h.length) (hj : j < h.length) (hij : i ≠ j) (l : List T) (hl : l.length ≤ 1000000) (s : ByteArray)
    (ih : ∀ t ∈ l, ∀ (h : AH), i < h.length → j < h.length → XO (HB h i j true (.empty)) → ∀ tx : ByteArray, tx.size + t.txt.size ≤ 140737488355328 → Wri 86 [.ptr i 0 0, t.av] h i j true tx t.txt)
    (hG : XO (HB h i j true (.empty))) (u : Bool) (tx : ByteArray) (hs : tx.size + (funT s (txts l)).size ≤ 140737488355328) :
    Wri 84 [.ptr i 0 0, .v (.string s), .sl 4 (avs l) none] h i j u tx (funT s (txts l)) := by
  obtain ⟨L, hL⟩ : ∃ L : AH, L = [AB.cells 134 1 [.ptr i 0 0], AB.cells 44 1 [.sl 4 (avs l) none]] := ⟨_, rfl⟩
  have hlL : (h ++ L).length = h.length + 2 := by rw [hL]; simp
  have hi' : i < (h ++ L).length := by omega
  have hj' : j < (h ++ L).length := by omega
  have gapp := fun (u : Bool) (tx : ByteArray) (L : AH) => Qhu (h := h) (i := i) (j := j) hi hj u tx L
  have hsz : (funT s (txts l)).size = s.size + (encB (decide (0 < (txts l).length)) (XV true (txts l))).size := by rw [funT, Qt]
  rw [QaJ] at hsz
  obtain ⟨body, hbody⟩ : ∃ b, b = XV true (txts l) := ⟨_, rfl⟩
  rw [← hbody] at hsz
  have hbs : body.size ≤ (encB (decide (0 < l.length)) body).size := by
    rw [encB]; split
    · rw [Qt, Qt]; omega
    · exact Nat.le_refl _
  have c1 := wstr (h := h ++ L) hi' hj' hij u tx s (by omega)
  rw [gapp, gapp, hL] at c1
  have gp : (h ++ L)[h.length]? = some (.cells 134 1 [.ptr i 0 0]) := by rw [hL]; simp
  have gq : (h ++ L)[h.length + 1]? = some (.cells 44 1 [.sl 4 (avs l) none]) := by rw [hL]; simp
  have hn : decide ((l.length : Int) > 0) = decide (0 < l.length) := by rw [Bool.eq_iff_iff]; simp
  have hx : ((if decide (0 < l.length) = true then tx ++ s ++ lpa else tx ++ s)).size + body.size ≤ 140737488355328 := by
    by_cases h0 : 0 < l.length
    · rw [if_pos (decide_eq_true h0), Qt, Qt]
      rw [encB, if_pos (decide_eq_true h0), Qt, Qt] at hsz
      omega
    · rw [if_neg (by simpa using h0), Qt]
      omega
  have hw := QfT (h := h ++ L) hi' hj' hij l (p := h.length) (q := h.length + 1) (by omega) (by omega) (by omega) (by omega) (by omega) (by omega) gp gq hl ih (by rw [gapp]; exact HasG.app hG _)
    (if decide (0 < l.length) = true then tx ++ s ++ lpa else tx ++ s) (by rw [← hbody]; exact hx)
  rw [← hbody] at hw
  have c2 := QaR (h := h ++ L) hi' hj' hij (decide (0 < l.length)) true (tx ++ s) body (fv := .fn (.func 123) [] [.ptr (h.length + 1) 0 0, .ptr h.length 0 0]) (by rw [Qt]; omega) (FunW.fn hw)
  rw [gapp, gapp, hL] at c2
  have f2 := fun u tx L => Qdz h i j u tx L
  have f3 := fun u tx L => Qfy h i j u tx L
  have f6 := fun u tx L => Qda (h := h) hi hij u tx L
  have f1 := Qew h i j
  refine Qh Tryz.func84 rfl Tryz.call84 Tryz.ntmps84 (congrArg Array.toList Tryz.results84) (by simp) ?_
  repeat (first | ((first | (with_reducible (first | refine Qa fun K E hK hE => ?_ | refine Qo fun K E hK hE => ?_ | refine FunW.ret (FunW.call c1) ?_ | refine FunW.ret (FunW.call c2) ?_))); simp -implicitDefEqProofs only [Qd, Qb, Qg, OpW, QR, aop, undef, AS.ev, Qc, Qq, Qk, QD, QlK, Ql3, AV.Qk5, Xs, Xh, QlX, QlY, QI, Xm, QlZ, ↓reduceIte, QlQ, QlR, Nat.reduceLT, Nat.reduceEqDiff, QlP, Ql2, Ql, QK, QL, aBin, aLen, hlen, happ, QlD, QlE, QlF, QlS, QlW, Ql5, Ql4, Q1, goInt, QE, ti44, un44, Qav, YO, Q5, f1, f2, f3, f6, QE, hn]) | ((with_reducible refine hK _ ?_); clear hK))
  simp -implicitDefEqProofs only [QlF, QlJ, List.mapM_nil, Option.pure_def, QlF, QN, Qp, QlN]
  exact Yx hi hj hij (.keep (.tup _ fun x hx => by cases hx)) ⟨rfl, by rw [funT, QaJ, ← hbody, ByteArray.append_assoc]⟩
end Go.Proofs.YtenheconhibonaaGreatDoor.Ab
set_option maxRecDepth 4000
namespace Go.Proofs.YtenheconhibonaaGreatDoor.Ab
open Go.Proofs
def TIh (i j : Nat) (t : T) : Prop := ∀ (h : AH), i < h.length → j < h.length → XO (HB h i j true (.empty)) → ∀ (u : Bool) (tx : ByteArray), tx.size + t.txt.size ≤ 140737488355328 → Wri 86 [.ptr i 0 0, t.av] h i j u tx t.txt
theorem QjA (b : Bool) (x tx : ByteArray) : (if b = true then tx ++ lpa else tx).size + x.size ≤ tx.size + (encB b x).size := by
  rw [encB]; split
  · rw [Qt, Qt, Qt]; omega
  · exact Nat.le_refl _
theorem Qj8 {h : AH} {i j : Nat} (hi : i < h.length) (hj : j < h.length) (hij : i ≠ j) (n : ByteArray) (x : Int) (a c : T) (hn : n.size ≤ 1000000) (ho : ofB n ≠ 0) (hla : a.args.length ≤ 1000000) (hlc : c.args.length ≤ 1000000) (iha : TIh i j a) (ihc : TIh i j c)
    (hG : XO (HB h i j true (.empty))) (u : Bool) (tx : ByteArray) (hs : tx.size + (binT (ofB n) n a.oper c.oper a.txt c.txt).size ≤ 140737488355328) :
    Wri 86 [.ptr i 0 0, (T.mk 2 x n [a, c]).av] h i j u tx (binT (ofB n) n a.oper c.oper a.txt c.txt) := by
  obtain ⟨t, ht⟩ : ∃ t, t = T.mk 2 x n [a, c] := ⟨_, rfl⟩
  have eo : t.oper = ofB n := by rw [ht]; rfl
  have eav : t.av = .agg [.i 2, .i x, .v (.string n), .sl 4 (avs [a, c]) none] := by rw [ht]; rfl
  obtain ⟨L, hL⟩ : ∃ L : AH, L = [AB.cells 134 1 [.ptr i 0 0], AB.cells 69 4 [t.av]] := ⟨_, rfl⟩
  have hlL : (h ++ L).length = h.length + 2 := by rw [hL]; simp
  have hi' : i < (h ++ L).length := by omega
  have hj' : j < (h ++ L).length := by omega
  have gapp := fun (u : Bool) (tx : ByteArray) (L : AH) => Qhu (h := h) (i := i) (j := j) hi hj u tx L
  have hG' : XO (HB (h ++ L) i j true (.empty)) := by rw [gapp]; exact HasG.app hG _
  have gp : ∀ u tx, (HB (h ++ L) i j u tx)[h.length]? = some (.cells 134 1 [.ptr i 0 0]) := fun u tx => by rw [gapp, Qdz, hL]; rfl
  have gq : ∀ u tx, (HB (h ++ L) i j u tx)[h.length + 1]? = some (.cells 69 4 [t.av]) := fun u tx => by rw [gapp, Qfy, hL]; rfl
  have ct := Qbm t (by rw [ht]; simp [maxLen, T.args])
  rw [eo, eav] at ct
  have ca := Qbm a (by simp only [maxLen]; omega)
  have cc := Qbm c (by simp only [maxLen]; omega)
  obtain ⟨o, eoo⟩ : ∃ o, o = ofB n := ⟨_, rfl⟩
  obtain ⟨oa, eoa⟩ : ∃ o, o = a.oper := ⟨_, rfl⟩
  obtain ⟨oc, eoc⟩ : ∃ o, o = c.oper := ⟨_, rfl⟩
  rw [← eoo] at ct
  rw [← eoa] at ca
  rw [← eoc] at cc
  rw [← eoo, ← eoa, ← eoc] at hs ⊢
  rw [← eoo] at ho
  have hm := hs
  simp only [binT, Qt] at hm
  have hsp : ({ data := #[32] } : ByteArray).size = 1 := rfl
  -- the first operand
  have hw1 := fun (u : Bool) (q : Bool) (tx' : ByteArray) (hq : tx'.size + a.txt.size ≤ 140737488355328) => QiO (p := h.length) (q := h.length + 1) (t := t) (a := a) (gp u tx') (gq u tx') (by rw [ht]; rfl) (iha (h ++ L) hi' hj' hG' u tx' hq)
  have hw2 := fun (u : Bool) (q : Bool) (tx' : ByteArray) (hq : tx'.size + c.txt.size ≤ 140737488355328) => Qjf (p := h.length) (q := h.length + 1) (t := t) (a := c) (gp u tx') (gq u tx') (by rw [ht]; rfl) (ihc (h ++ L) hi' hj' hG' u tx' hq)
  have e1 := QjA ((oa == 1) && (o == 2)) a.txt tx
  have c1 := QaR (h := h ++ L) hi' hj' hij ((oa == 1) && (o == 2)) u tx a.txt (fv := .fn (.func 125) [] [.ptr h.length 0 0, .ptr (h.length + 1) 0 0]) (by omega) (FunW.fn (hw1 _ true _ (by omega)))
  obtain ⟨tx1, etx1⟩ : ∃ z, z = tx ++ encB ((oa == 1) && (o == 2)) a.txt := ⟨_, rfl⟩
  rw [← etx1] at c1
  have hsz1 : tx1.size = tx.size + (encB ((oa == 1) && (o == 2)) a.txt).size := by rw [etx1, Qt]
  have c2 := wstr (h := h ++ L) hi' hj' hij true tx1 (({ data := #[32] } : ByteArray) ++ n ++ { data := #[32] }) (by simp only [Qt]; omega)
  obtain ⟨tx2, etx2⟩ : ∃ z, z = tx1 ++ (({ data := #[32] } : ByteArray) ++ n ++ { data := #[32] }) := ⟨_, rfl⟩
  rw [← etx2] at c2
  have hsz2 : tx2.size = tx1.size + (1 + n.size + 1) := by rw [etx2]; simp only [Qt, hsp]
  have e3 := QjA ((oc != 0) && ((oc == 1) || (o == 2))) c.txt tx2
  have c3 := QaR (h := h ++ L) hi' hj' hij ((oc != 0) && ((oc == 1) || (o == 2))) true tx2 c.txt (fv := .fn (.func 126) [] [.ptr h.length 0 0, .ptr (h.length + 1) 0 0]) (by omega) (FunW.fn (hw2 _ true _ (by omega)))
  have efin : tx2 ++ encB ((oc != 0) && ((oc == 1) || (o == 2))) c.txt = tx ++ binT o n oa oc a.txt c.txt := by
    rw [etx2, etx1, binT]; simp only [ByteArray.append_assoc]
  rw [efin] at c3
  rw [gapp, gapp, hL, eav] at c1 c2 c3
  have f1 := Qew h i j
  have f2 := fun u tx L => Qdz h i j u tx L
  have f3 := fun u tx L => Qfy h i j u tx L
  have f6 := fun u tx L => Qda (h := h) hi hij u tx L
  have hsa1 := fun xo yo => Xl Tryz.prog 9 xo yo ({ data := #[32] } : ByteArray) n (by omega)
  have hsa2 := fun xo yo => Xl Tryz.prog 9 xo yo (({ data := #[32] } : ByteArray) ++ n) { data := #[32] } (by rw [Qt]; omega)
  have ga : (avs [a, c])[0]? = some a.av := rfl
  have gc : (avs [a, c])[1]? = some c.av := rfl
  have hav : (T.mk 2 x n [a, c]).av = .agg [.i 2, .i x, .v (.string n), .sl 4 (avs [a, c]) none] := rfl
  have ho' : (o != 0) = true := by simpa using ho
  rw [hav]
  have hll : (avs [a, c]).length = 2 := rfl
  have z0 : ((0 : Int) ≤ 1) = True := by simp
  have z1 : ((0 : Int) < ((2 : Nat) : Int)) = True := by simp
  have z2 : ((1 : Int) < ((2 : Nat) : Int)) = True := by simp
  obtain ⟨q1, eq1⟩ : ∃ z, z = ((oa == 1) && (o == 2)) := ⟨_, rfl⟩
  obtain ⟨q3, eq3⟩ : ∃ z, z = ((oc != 0) && ((oc == 1) || (o == 2))) := ⟨_, rfl⟩
  rw [← eq1] at c1
  rw [← eq3] at c3
  cases b1 : (oa == 1)
  · cases b2 : (o == 2)
    · cases b3 : (oc != 0)
      · have hq1 : q1 = false := by rw [eq1, b1, b2]; rfl
        have hq3 : q3 = false := by rw [eq3, b2, b3]; rfl
        rw [hq1] at c1
        rw [hq3] at c3
        refine Qh Tryz.func86 rfl Tryz.call86 Tryz.ntmps86 (congrArg Array.toList Tryz.results86) (by simp) ?_
        repeat (first | ((first | (with_reducible (first | refine Qa fun K E hK hE => ?_ | refine Qo fun K E hK hE => ?_ | refine Qs ct ?_ | refine QQ ca ?_ | refine QQ cc ?_ | refine FunW.ret (FunW.call c1) ?_ | refine FunW.ret (FunW.call c3) ?_ | refine XL (FunW.call c2) ZN ?_)) | (refine QX (id := 4) [(0, 0), (1, 0), (2, 0), (3, 0), (4, 1), (5, 0), (6, 0), (7, 0), (8, 0), (9, 1), (10, 0), (11, 0)] mixed (by kernel_rfl) fun K hK => ?_) | (refine QX (id := 6) [(0, 0), (1, 0), (2, 0), (3, 0), (4, 0), (5, 0), (6, 0), (7, 2)] mixed (by kernel_rfl) fun K hK => ?_)); simp -implicitDefEqProofs only [Xk, Xd, Xw, Qd, Qb, Qg, OpW, QR, aop, undef, AS.ev, Qc, Qq, Qr, QF, Qk, QD, QlK, Ql3, AV.Qk5, Qy, Xh, QM, QlX, QlY, QC, QA, QI, Xm, QlZ, ↓reduceIte, QlQ, QlR, Nat.reduceAdd, Nat.reduceLT, Nat.reduceLeDiff, Nat.reduceEqDiff, QlP, Ql2, Qmb, Ql, QK, QL, QJ, aBin, hlen, happ, QlD, QlE, QlF, QlI, QlG, QlS, QlW, Ql5, Ql4, QS, XA, Int.toNat_zero, Int.toNat_one, QlH, beq_true, T.Qk4, T.Qk6, ti9, ti44, ei44, ti69, XM, XN, Qav, YO, Qmq, Q5, f1, f2, f3, f6, ho', hll, ga, gc, z0, z1, z2, b1, b3, hsa1, hsa2, T.Qk6, T.Qk4]) | (with_reducible (first | refine Qm ?_ | refine Qw ?_)) | ((with_reducible refine hK _ ?_); clear hK) | (refine Qj rfl ?_; simp only [↓reduceIte]))
        simp -implicitDefEqProofs only [QlF, QlJ, List.mapM_nil, Option.pure_def, QlF, QN, Qp, QlN]
        exact Yx hi hj hij (.keep (.tup _ fun x hx => by cases hx)) ⟨rfl, rfl⟩
      · cases b4 : (oc == 1)
        · have hq1 : q1 = false := by rw [eq1, b1, b2]; rfl
          have hq3 : q3 = false := by rw [eq3, b2, b3, b4]; rfl
          rw [hq1] at c1
          rw [hq3] at c3
          refine Qh Tryz.func86 rfl Tryz.call86 Tryz.ntmps86 (congrArg Array.toList Tryz.results86) (by simp) ?_
          repeat (first | ((first | (with_reducible (first | refine Qa fun K E hK hE => ?_ | refine Qo fun K E hK hE => ?_ | refine Qs ct ?_ | refine QQ ca ?_ | refine QQ cc ?_ | refine FunW.ret (FunW.call c1) ?_ | refine FunW.ret (FunW.call c3) ?_ | refine XL (FunW.call c2) ZN ?_)) | (refine QX (id := 4) [(0, 0), (1, 0), (2, 0), (3, 0), (4, 1), (5, 0), (6, 0), (7, 0), (8, 0), (9, 1), (10, 0), (11, 0)] mixed (by kernel_rfl) fun K hK => ?_) | (refine QX (id := 6) [(0, 0), (1, 0), (2, 0), (3, 0), (4, 0), (5, 0), (6, 0), (7, 2)] mixed (by kernel_rfl) fun K hK => ?_)); simp -implicitDefEqProofs only [Xk, Xd, Xw, Qd, Qb, Qg, OpW, QR, aop, undef, AS.ev, Qc, Qq, Qr, QF, Qk, QD, QlK, Ql3, AV.Qk5, Qy, Xh, QM, QlX, QlY, QC, QA, QI, Xm, QlZ, ↓reduceIte, QlQ, QlR, Nat.reduceAdd, Nat.reduceLT, Nat.reduceLeDiff, Nat.reduceEqDiff, QlP, Ql2, Qmb, Ql, QK, QL, QJ, aBin, hlen, happ, QlD, QlE, QlF, QlI, QlG, QlS, QlW, Ql5, Ql4, QS, XA, QlL, Int.toNat_zero, Int.toNat_one, QlH, beq_true, T.Qk4, T.Qk6, ti9, ti44, ei44, ti69, XM, XN, Qav, YO, Qmq, Q5, f1, f2, f3, f6, ho', hll, ga, gc, z0, z1, z2, b1, b2, b3, b4, hsa1, hsa2, T.Qk6, T.Qk4]) | (with_reducible (first | refine Qm ?_ | refine Qw ?_)) | ((with_reducible refine hK _ ?_); clear hK) | (refine Qj rfl ?_; simp only [↓reduceIte]))
          simp -implicitDefEqProofs only [QlF, QlJ, List.mapM_nil, Option.pure_def, QlF, QN, Qp, QlN]
          exact Yx hi hj hij (.keep (.tup _ fun x hx => by cases hx)) ⟨rfl, rfl⟩
        · have hq1 : q1 = false := by rw [eq1, b1, b2]; rfl
          have hq3 : q3 = true := by rw [eq3, b2, b3, b4]; rfl
          rw [hq1] at c1
          rw [hq3] at c3
          refine Qh Tryz.func86 rfl Tryz.call86 Tryz.ntmps86 (congrArg Array.toList Tryz.results86) (by simp) ?_
          repeat (first | ((first | (with_reducible (first | refine Qa fun K E hK hE => ?_ | refine Qo fun K E hK hE => ?_ | refine Qs ct ?_ | refine QQ ca ?_ | refine QQ cc ?_ | refine FunW.ret (FunW.call c1) ?_ | refine FunW.ret (FunW.call c3) ?_ | refine XL (FunW.call c2) ZN ?_)) | (refine QX (id := 4) [(0, 0), (1, 0), (2, 0), (3, 0), (4, 1), (5, 0), (6, 0), (7, 0), (8, 0), (9, 1), (10, 0), (11, 0)] mixed (by kernel_rfl) fun K hK => ?_) | (refine QX (id := 6) [(0, 0), (1, 0), (2, 0), (3, 0), (4, 0), (5, 0), (6, 0), (7, 2)] mixed (by kernel_rfl) fun K hK => ?_)); simp -implicitDefEqProofs only [Xk, Xd, Xw, Qd, Qb, Qg, OpW, QR, aop, undef, AS.ev, Qc, Qq, Qr, QF, Qk, QD, QlK, Ql3, AV.Qk5, Qy, Xh, QM, QlX, QlY, QC, QA, QI, Xm, QlZ, Ql0, ↓reduceIte, QlQ, QlR, Nat.reduceAdd, Nat.reduceLT, Nat.reduceLeDiff, Nat.reduceEqDiff, QlP, Ql2, Qmb, Ql, QK, QL, QJ, aBin, hlen, happ, QlD, QlE, QlF, QlI, QlG, QlS, QlW, Ql5, Ql4, QS, XA, QlL, Int.toNat_zero, Int.toNat_one, QlH, beq_true, beq_false, T.Qk4, T.Qk6, ti9, ti44, ei44, ti69, XM, XN, Qav, YO, Qmq, Q5, f1, f2, f3, f6, ho', hll, ga, gc, z0, z1, z2, b1, b3, b4, hsa1, hsa2, T.Qk6, T.Qk4]) | (with_reducible (first | refine Qm ?_ | refine Qw ?_)) | ((with_reducible refine hK _ ?_); clear hK) | (refine Qj rfl ?_; simp only [↓reduceIte]))
          simp -implicitDefEqProofs only [QlF, QlJ, List.mapM_nil, Option.pure_def, QlF, QN, Qp, QlN]
          exact Yx hi hj hij (.keep (.tup _ fun x hx => by cases hx)) ⟨rfl, rfl⟩
    · cases b3 : (oc != 0)
      · have hq1 : q1 = false := by rw [eq1, b1, b2]; rfl
        have hq3 : q3 = false := by rw [eq3, b2, b3]; rfl
        rw [hq1] at c1
        rw [hq3] at c3
        refine Qh Tryz.func86 rfl Tryz.call86 Tryz.ntmps86 (congrArg Array.toList Tryz.results86) (by simp) ?_
        repeat (first | ((first | (with_reducible (first | refine Qa fun K E hK hE => ?_ | refine Qo fun K E hK hE => ?_ | refine Qs ct ?_ | refine QQ ca ?_ | refine QQ cc ?_ | refine FunW.ret (FunW.call c1) ?_ | refine FunW.ret (FunW.call c3) ?_ | refine XL (FunW.call c2) ZN ?_)) | (refine QX (id := 4) [(0, 0), (1, 0), (2, 0), (3, 0), (4, 1), (5, 0), (6, 0), (7, 0), (8, 0), (9, 1), (10, 0), (11, 0)] mixed (by kernel_rfl) fun K hK => ?_) | (refine QX (id := 6) [(0, 0), (1, 0), (2, 0), (3, 0), (4, 0), (5, 0), (6, 0), (7, 2)] mixed (by kernel_rfl) fun K hK => ?_)); simp -implicitDefEqProofs only [Xk, Xd, Xw, Qd, Qb, Qg, OpW, QR, aop, undef, AS.ev, Qc, Qq, Qr, QF, Qk, QD, QlK, Ql3, AV.Qk5, Qy, Xh, QM, QlX, QlY, QC, QA, QI, Xm, QlZ, ↓reduceIte, QlQ, QlR, Nat.reduceAdd, Nat.reduceLT, Nat.reduceLeDiff, Nat.reduceEqDiff, QlP, Ql2, Qmb, Ql, QK, QL, QJ, aBin, hlen, happ, QlD, QlE, QlF, QlI, QlG, QlS, QlW, Ql5, Ql4, QS, XA, Int.toNat_zero, Int.toNat_one, QlH, beq_true, T.Qk4, T.Qk6, ti9, ti44, ei44, ti69, XM, XN, Qav, YO, Qmq, Q5, f1, f2, f3, f6, ho', hll, ga, gc, z0, z1, z2, b1, b3, hsa1, hsa2, T.Qk6, T.Qk4]) | (with_reducible (first | refine Qm ?_ | refine Qw ?_)) | ((with_reducible refine hK _ ?_); clear hK) | (refine Qj rfl ?_; simp only [↓reduceIte]))
        simp -implicitDefEqProofs only [QlF, QlJ, List.mapM_nil, Option.pure_def, QlF, QN, Qp, QlN]
        exact Yx hi hj hij (.keep (.tup _ fun x hx => by cases hx)) ⟨rfl, rfl⟩
      · cases b4 : (oc == 1)
        · have hq1 : q1 = false := by rw [eq1, b1, b2]; rfl
          have hq3 : q3 = true := by rw [eq3, b2, b3, b4]; rfl
          rw [hq1] at c1
          rw [hq3] at c3
          refine Qh Tryz.func86 rfl Tryz.call86 Tryz.ntmps86 (congrArg Array.toList Tryz.results86) (by simp) ?_
          repeat (first | ((first | (with_reducible (first | refine Qa fun K E hK hE => ?_ | refine Qo fun K E hK hE => ?_ | refine Qs ct ?_ | refine QQ ca ?_ | refine QQ cc ?_ | refine FunW.ret (FunW.call c1) ?_ | refine FunW.ret (FunW.call c3) ?_ | refine XL (FunW.call c2) ZN ?_)) | (refine QX (id := 4) [(0, 0), (1, 0), (2, 0), (3, 0), (4, 1), (5, 0), (6, 0), (7, 0), (8, 0), (9, 1), (10, 0), (11, 0)] mixed (by kernel_rfl) fun K hK => ?_) | (refine QX (id := 6) [(0, 0), (1, 0), (2, 0), (3, 0), (4, 0), (5, 0), (6, 0), (7, 2)] mixed (by kernel_rfl) fun K hK => ?_)); simp -implicitDefEqProofs only [Xk, Xd, Xw, Qd, Qb, Qg, OpW, QR, aop, undef, AS.ev, Qc, Qq, Qr, QF, Qk, QD, QlK, Ql3, AV.Qk5, Qy, Xh, QM, QlX, QlY, QC, QA, QI, Xm, QlZ, ↓reduceIte, QlQ, QlR, Nat.reduceAdd, Nat.reduceLT, Nat.reduceLeDiff, Nat.reduceEqDiff, QlP, Ql2, Qmb, Ql, QK, QL, QJ, aBin, hlen, happ, QlD, QlE, QlF, QlI, QlG, QlS, QlW, Ql5, Ql4, QS, XA, QlL, Int.toNat_zero, Int.toNat_one, QlH, beq_true, T.Qk4, T.Qk6, ti9, ti44, ei44, ti69, XM, XN, Qav, YO, Qmq, Q5, f1, f2, f3, f6, ho', hll, ga, gc, z0, z1, z2, b1, b2, b3, b4, hsa1, hsa2, T.Qk6, T.Qk4]) | (with_reducible (first | refine Qm ?_ | refine Qw ?_)) | ((with_reducible refine hK _ ?_); clear hK) | (refine Qj rfl ?_; simp only [↓reduceIte]))
          simp -implicitDefEqProofs only [QlF, QlJ, List.mapM_nil, Option.pure_def, QlF, QN, Qp, QlN]
          exact Yx hi hj hij (.keep (.tup _ fun x hx => by cases hx)) ⟨rfl, rfl⟩
        · have hq1 : q1 = false := by rw [eq1, b1, b2]; rfl
          have hq3 : q3 = true := by rw [eq3, b2, b3, b4]; rfl
          rw [hq1] at c1
          rw [hq3] at c3
          refine Qh Tryz.func86 rfl Tryz.call86 Tryz.ntmps86 (congrArg Array.toList Tryz.results86) (by simp) ?_
          repeat (first | ((first | (with_reducible (first | refine Qa fun K E hK hE => ?_ | refine Qo fun K E hK hE => ?_ | refine Qs ct ?_ | refine QQ ca ?_ | refine QQ cc ?_ | refine FunW.ret (FunW.call c1) ?_ | refine FunW.ret (FunW.call c3) ?_ | refine XL (FunW.call c2) ZN ?_)) | (refine QX (id := 4) [(0, 0), (1, 0), (2, 0), (3, 0), (4, 1), (5, 0), (6, 0), (7, 0), (8, 0), (9, 1), (10, 0), (11, 0)] mixed (by kernel_rfl) fun K hK => ?_) | (refine QX (id := 6) [(0, 0), (1, 0), (2, 0), (3, 0), (4, 0), (5, 0), (6, 0), (7, 2)] mixed (by kernel_rfl) fun K hK => ?_)); simp -implicitDefEqProofs only [Xk, Xd, Xw, Qd, Qb, Qg, OpW, QR, aop, undef, AS.ev, Qc, Qq, Qr, QF, Qk, QD, QlK, Ql3, AV.Qk5, Qy, Xh, QM, QlX, QlY, QC, QA, QI, Xm, QlZ, Ql0, ↓reduceIte, QlQ, QlR, Nat.reduceAdd, Nat.reduceLT, Nat.reduceLeDiff, Nat.reduceEqDiff, QlP, Ql2, Qmb, Ql, QK, QL, QJ, aBin, hlen, happ, QlD, QlE, QlF, QlI, QlG, QlS, QlW, Ql5, Ql4, QS, XA, QlL, Int.toNat_zero, Int.toNat_one, QlH, beq_true, beq_false, T.Qk4, T.Qk6, ti9, ti44, ei44, ti69, XM, XN, Qav, YO, Qmq, Q5, f1, f2, f3, f6, ho', hll, ga, gc, z0, z1, z2, b1, b3, b4, hsa1, hsa2, T.Qk6, T.Qk4]) | (with_reducible (first | refine Qm ?_ | refine Qw ?_)) | ((with_reducible refine hK _ ?_); clear hK) | (refine Qj rfl ?_; simp only [↓reduceIte]))
          simp -implicitDefEqProofs only [QlF, QlJ, List.mapM_nil, Option.pure_def, QlF, QN, Qp, QlN]
          exact Yx hi hj hij (.keep (.tup _ fun x hx => by cases hx)) ⟨rfl, rfl⟩
  · cases b2 : (o == 2)
    · cases b3 : (oc != 0)
      · have hq1 : q1 = false := by rw [eq1, b1, b2]; rfl
        have hq3 : q3 = false := by rw [eq3, b2, b3]; rfl
        rw [hq1] at c1
        rw [hq3] at c3
        refine Qh Tryz.func86 rfl Tryz.call86 Tryz.ntmps86 (congrArg Array.toList Tryz.results86) (by simp) ?_
        repeat (first | ((first | (with_reducible (first | refine Qa fun K E hK hE => ?_ | refine Qo fun K E hK hE => ?_ | refine Qs ct ?_ | refine QQ ca ?_ | refine QQ cc ?_ | refine FunW.ret (FunW.call c1) ?_ | refine FunW.ret (FunW.call c3) ?_ | refine XL (FunW.call c2) ZN ?_)) | (refine QX (id := 4) [(0, 0), (1, 0), (2, 0), (3, 0), (4, 1), (5, 0), (6, 0), (7, 0), (8, 0), (9, 1), (10, 0), (11, 0)] mixed (by kernel_rfl) fun K hK => ?_) | (refine QX (id := 6) [(0, 0), (1, 0), (2, 0), (3, 0), (4, 0), (5, 0), (6, 0), (7, 2)] mixed (by kernel_rfl) fun K hK => ?_)); simp -implicitDefEqProofs only [Xk, Xd, Xw, Qd, Qb, Qg, OpW, QR, aop, undef, AS.ev, Qc, Qq, Qr, QF, Qk, QD, QlK, Ql3, AV.Qk5, Qy, Xh, QM, QlX, QlY, QC, QA, QI, Xm, QlZ, ↓reduceIte, QlQ, QlR, Nat.reduceAdd, Nat.reduceLT, Nat.reduceLeDiff, Nat.reduceEqDiff, QlP, Ql2, Qmb, Ql, QK, QL, QJ, aBin, hlen, happ, QlD, QlE, QlF, QlI, QlG, QlS, QlW, Ql5, Ql4, QS, XA, QlL, Int.toNat_zero, Int.toNat_one, QlH, beq_true, T.Qk4, T.Qk6, ti9, ti44, ei44, ti69, XM, XN, Qav, YO, Qmq, Q5, f1, f2, f3, f6, ho', hll, ga, gc, z0, z1, z2, b1, b2, b3, hsa1, hsa2, T.Qk6, T.Qk4]) | (with_reducible (first | refine Qm ?_ | refine Qw ?_)) | ((with_reducible refine hK _ ?_); clear hK) | (refine Qj rfl ?_; simp only [↓reduceIte]))
        simp -implicitDefEqProofs only [QlF, QlJ, List.mapM_nil, Option.pure_def, QlF, QN, Qp, QlN]
        exact Yx hi hj hij (.keep (.tup _ fun x hx => by cases hx)) ⟨rfl, rfl⟩
      · cases b4 : (oc == 1)
        · have hq1 : q1 = false := by rw [eq1, b1, b2]; rfl
          have hq3 : q3 = false := by rw [eq3, b2, b3, b4]; rfl
          rw [hq1] at c1
          rw [hq3] at c3
          refine Qh Tryz.func86 rfl Tryz.call86 Tryz.ntmps86 (congrArg Array.toList Tryz.results86) (by simp) ?_
          repeat (first | ((first | (with_reducible (first | refine Qa fun K E hK hE => ?_ | refine Qo fun K E hK hE => ?_ | refine Qs ct ?_ | refine QQ ca ?_ | refine QQ cc ?_ | refine FunW.ret (FunW.call c1) ?_ | refine FunW.ret (FunW.call c3) ?_ | refine XL (FunW.call c2) ZN ?_)) | (refine QX (id := 4) [(0, 0), (1, 0), (2, 0), (3, 0), (4, 1), (5, 0), (6, 0), (7, 0), (8, 0), (9, 1), (10, 0), (11, 0)] mixed (by kernel_rfl) fun K hK => ?_) | (refine QX (id := 6) [(0, 0), (1, 0), (2, 0), (3, 0), (4, 0), (5, 0), (6, 0), (7, 2)] mixed (by kernel_rfl) fun K hK => ?_)); simp -implicitDefEqProofs only [Xk, Xd, Xw, Qd, Qb, Qg, OpW, QR, aop, undef, AS.ev, Qc, Qq, QF, Qk, QD, QlK, Ql3, AV.Qk5, Qy, Xh, QM, QlX, QlY, QC, QA, QI, Xm, QlZ, ↓reduceIte, QlQ, QlR, Nat.reduceAdd, Nat.reduceLT, Nat.reduceLeDiff, Nat.reduceEqDiff, QlP, Ql2, Qmb, Ql, QK, QL, QJ, aBin, hlen, happ, QlD, QlE, QlF, QlI, QlG, QlS, QlW, Ql5, Ql4, QS, XA, QlL, Int.toNat_zero, Int.toNat_one, QlH, T.Qk4, T.Qk6, ti9, ti44, ei44, ti69, XM, XN, Qav, YO, Qmq, Q5, f1, f2, f3, f6, ho', hll, ga, gc, z0, z1, z2, b1, b2, b3, b4, hsa1, hsa2, T.Qk6, T.Qk4]) | (with_reducible (first | refine Qm ?_ | refine Qw ?_)) | ((with_reducible refine hK _ ?_); clear hK) | (refine Qj rfl ?_; simp only [↓reduceIte]))
          simp -implicitDefEqProofs only [QlF, QlJ, List.mapM_nil, Option.pure_def, QlF, QN, Qp, QlN]
          exact Yx hi hj hij (.keep (.tup _ fun x hx => by cases hx)) ⟨rfl, rfl⟩
        · have hq1 : q1 = false := by rw [eq1, b1, b2]; rfl
          have hq3 : q3 = true := by rw [eq3, b2, b3, b4]; rfl
          rw [hq1] at c1
          rw [hq3] at c3
          refine Qh Tryz.func86 rfl Tryz.call86 Tryz.ntmps86 (congrArg Array.toList Tryz.results86) (by simp) ?_
          repeat (first | ((first | (with_reducible (first | refine Qa fun K E hK hE => ?_ | refine Qo fun K E hK hE => ?_ | refine Qs ct ?_ | refine QQ ca ?_ | refine QQ cc ?_ | refine FunW.ret (FunW.call c1) ?_ | refine FunW.ret (FunW.call c3) ?_ | refine XL (FunW.call c2) ZN ?_)) | (refine QX (id := 4) [(0, 0), (1, 0), (2, 0), (3, 0), (4, 1), (5, 0), (6, 0), (7, 0), (8, 0), (9, 1), (10, 0), (11, 0)] mixed (by kernel_rfl) fun K hK => ?_) | (refine QX (id := 6) [(0, 0), (1, 0), (2, 0), (3, 0), (4, 0), (5, 0), (6, 0), (7, 2)] mixed (by kernel_rfl) fun K hK => ?_)); simp -implicitDefEqProofs only [Xk, Xd, Xw, Qd, Qb, Qg, OpW, QR, aop, undef, AS.ev, Qc, Qq, Qr, QF, Qk, QD, QlK, Ql3, AV.Qk5, Qy, Xh, QM, QlX, QlY, QC, QA, QI, Xm, QlZ, Ql0, ↓reduceIte, QlQ, QlR, Nat.reduceAdd, Nat.reduceLT, Nat.reduceLeDiff, Nat.reduceEqDiff, QlP, Ql2, Qmb, Ql, QK, QL, QJ, aBin, hlen, happ, QlD, QlE, QlF, QlI, QlG, QlS, QlW, Ql5, Ql4, QS, XA, QlL, Int.toNat_zero, Int.toNat_one, beq_false, T.Qk4, T.Qk6, ti9, ti44, ei44, ti69, XM, XN, Qav, YO, Qmq, Q5, f1, f2, f3, f6, ho', hll, ga, gc, z0, z1, z2, b1, b2, b3, b4, hsa1, hsa2, T.Qk6, T.Qk4]) | (with_reducible (first | refine Qm ?_ | refine Qw ?_)) | ((with_reducible refine hK _ ?_); clear hK) | (refine Qj rfl ?_; simp only [↓reduceIte]))
          simp -implicitDefEqProofs only [QlF, QlJ, List.mapM_nil, Option.pure_def, QlF, QN, Qp, QlN]
          exact Yx hi hj hij (.keep (.tup _ fun x hx => by cases hx)) ⟨rfl, rfl⟩
    · cases b3 : (oc != 0)
      · have hq1 : q1 = true := by rw [eq1, b1, b2]; rfl
        have hq3 : q3 = false := by rw [eq3, b2, b3]; rfl
        rw [hq1] at c1
        rw [hq3] at c3
        refine Qh Tryz.func86 rfl Tryz.call86 Tryz.ntmps86 (congrArg Array.toList Tryz.results86) (by simp) ?_
        repeat (first | ((first | (with_reducible (first | refine Qa fun K E hK hE => ?_ | refine Qo fun K E hK hE => ?_ | refine Qs ct ?_ | refine QQ ca ?_ | refine QQ cc ?_ | refine FunW.ret (FunW.call c1) ?_ | refine FunW.ret (FunW.call c3) ?_ | refine XL (FunW.call c2) ZN ?_)) | (refine QX (id := 4) [(0, 0), (1, 0), (2, 0), (3, 0), (4, 1), (5, 0), (6, 0), (7, 0), (8, 0), (9, 1), (10, 0), (11, 0)] mixed (by kernel_rfl) fun K hK => ?_) | (refine QX (id := 6) [(0, 0), (1, 0), (2, 0), (3, 0), (4, 0), (5, 0), (6, 0), (7, 2)] mixed (by kernel_rfl) fun K hK => ?_)); simp -implicitDefEqProofs only [Xk, Xd, Xw, Qd, Qb, Qg, OpW, QR, aop, undef, AS.ev, Qc, Qq, Qr, QF, Qk, QD, QlK, Ql3, AV.Qk5, Qy, Xh, QM, QlX, QlY, QC, QA, QI, Xm, QlZ, ↓reduceIte, QlQ, QlR, Nat.reduceAdd, Nat.reduceLT, Nat.reduceLeDiff, Nat.reduceEqDiff, QlP, Ql2, Qmb, Ql, QK, QL, QJ, aBin, hlen, happ, QlD, QlE, QlF, QlI, QlG, QlS, QlW, Ql5, Ql4, QS, XA, QlL, Int.toNat_zero, Int.toNat_one, QlH, beq_true, T.Qk4, T.Qk6, ti9, ti44, ei44, ti69, XM, XN, Qav, YO, Qmq, Q5, f1, f2, f3, f6, ho', hll, ga, gc, z0, z1, z2, b1, b2, b3, hsa1, hsa2, T.Qk6, T.Qk4]) | (with_reducible (first | refine Qm ?_ | refine Qw ?_)) | ((with_reducible refine hK _ ?_); clear hK) | (refine Qj rfl ?_; simp only [↓reduceIte]))
        simp -implicitDefEqProofs only [QlF, QlJ, List.mapM_nil, Option.pure_def, QlF, QN, Qp, QlN]
        exact Yx hi hj hij (.keep (.tup _ fun x hx => by cases hx)) ⟨rfl, rfl⟩
      · cases b4 : (oc == 1)
        · have hq1 : q1 = true := by rw [eq1, b1, b2]; rfl
          have hq3 : q3 = true := by rw [eq3, b2, b3, b4]; rfl
          rw [hq1] at c1
          rw [hq3] at c3
          refine Qh Tryz.func86 rfl Tryz.call86 Tryz.ntmps86 (congrArg Array.toList Tryz.results86) (by simp) ?_
          repeat (first | ((first | (with_reducible (first | refine Qa fun K E hK hE => ?_ | refine Qo fun K E hK hE => ?_ | refine Qs ct ?_ | refine QQ ca ?_ | refine QQ cc ?_ | refine FunW.ret (FunW.call c1) ?_ | refine FunW.ret (FunW.call c3) ?_ | refine XL (FunW.call c2) ZN ?_)) | (refine QX (id := 4) [(0, 0), (1, 0), (2, 0), (3, 0), (4, 1), (5, 0), (6, 0), (7, 0), (8, 0), (9, 1), (10, 0), (11, 0)] mixed (by kernel_rfl) fun K hK => ?_) | (refine QX (id := 6) [(0, 0), (1, 0), (2, 0), (3, 0), (4, 0), (5, 0), (6, 0), (7, 2)] mixed (by kernel_rfl) fun K hK => ?_)); simp -implicitDefEqProofs only [Xk, Xd, Xw, Qd, Qb, Qg, OpW, QR, aop, undef, AS.ev, Qc, Qq, QF, Qk, QD, QlK, Ql3, AV.Qk5, Qy, Xh, QM, QlX, QlY, QC, QA, QI, Xm, QlZ, ↓reduceIte, QlQ, QlR, Nat.reduceAdd, Nat.reduceLT, Nat.reduceLeDiff, Nat.reduceEqDiff, QlP, Ql2, Qmb, Ql, QK, QL, QJ, aBin, hlen, happ, QlD, QlE, QlF, QlI, QlG, QlS, QlW, Ql5, Ql4, QS, XA, QlL, Int.toNat_zero, Int.toNat_one, QlH, T.Qk4, T.Qk6, ti9, ti44, ei44, ti69, XM, XN, Qav, YO, Qmq, Q5, f1, f2, f3, f6, ho', hll, ga, gc, z0, z1, z2, b1, b2, b3, b4, hsa1, hsa2, T.Qk6, T.Qk4]) | (with_reducible (first | refine Qm ?_ | refine Qw ?_)) | ((with_reducible refine hK _ ?_); clear hK) | (refine Qj rfl ?_; simp only [↓reduceIte]))
          simp -implicitDefEqProofs only [QlF, QlJ, List.mapM_nil, Option.pure_def, QlF, QN, Qp, QlN]
          exact Yx hi hj hij (.keep (.tup _ fun x hx => by cases hx)) ⟨rfl, rfl⟩
        · have hq1 : q1 = true := by rw [eq1, b1, b2]; rfl
          have hq3 : q3 = true := by rw [eq3, b2, b3, b4]; rfl
          rw [hq1] at c1
          rw [hq3] at c3
          refine Qh Tryz.func86 rfl Tryz.call86 Tryz.ntmps86 (congrArg Array.toList Tryz.results86) (by simp) ?_
          repeat (first | ((first | (with_reducible (first | refine Qa fun K E hK hE => ?_ | refine Qo fun K E hK hE => ?_ | refine Qs ct ?_ | refine QQ ca ?_ | refine QQ cc ?_ | refine FunW.ret (FunW.call c1) ?_ | refine FunW.ret (FunW.call c3) ?_ | refine XL (FunW.call c2) ZN ?_)) | (refine QX (id := 4) [(0, 0), (1, 0), (2, 0), (3, 0), (4, 1), (5, 0), (6, 0), (7, 0), (8, 0), (9, 1), (10, 0), (11, 0)] mixed (by kernel_rfl) fun K hK => ?_) | (refine QX (id := 6) [(0, 0), (1, 0), (2, 0), (3, 0), (4, 0), (5, 0), (6, 0), (7, 2)] mixed (by kernel_rfl) fun K hK => ?_)); simp -implicitDefEqProofs only [Xk, Xd, Xw, Qd, Qb, Qg, OpW, QR, aop, undef, AS.ev, Qc, Qq, Qr, QF, Qk, QD, QlK, Ql3, AV.Qk5, Qy, Xh, QM, QlX, QlY, QC, QA, QI, Xm, QlZ, Ql0, ↓reduceIte, QlQ, QlR, Nat.reduceAdd, Nat.reduceLT, Nat.reduceLeDiff, Nat.reduceEqDiff, QlP, Ql2, Qmb, Ql, QK, QL, QJ, aBin, hlen, happ, QlD, QlE, QlF, QlI, QlG, QlS, QlW, Ql5, Ql4, QS, XA, QlL, Int.toNat_zero, Int.toNat_one, beq_false, T.Qk4, T.Qk6, ti9, ti44, ei44, ti69, XM, XN, Qav, YO, Qmq, Q5, f1, f2, f3, f6, ho', hll, ga, gc, z0, z1, z2, b1, b2, b3, b4, hsa1, hsa2, T.Qk6, T.Qk4]) | (with_reducible (first | refine Qm ?_ | refine Qw ?_)) | ((with_reducible refine hK _ ?_); clear hK) | (refine Qj rfl ?_; simp only [↓reduceIte]))
          simp -implicitDefEqProofs only [QlF, QlJ, List.mapM_nil, Option.pure_def, QlF, QN, Qp, QlN]
          exact Yx hi hj hij (.keep (.tup _ fun x hx => by cases hx)) ⟨rfl, rfl⟩
end Go.Proofs.YtenheconhibonaaGreatDoor.Ab
set_option maxRecDepth 4000
namespace Go.Proofs.YtenheconhibonaaGreatDoor.Ab
open Go.Proofs
theorem ZR (h : AH) (_ : 3 = 3) : Keep h h := Keep.refl h
theorem Qiw {h : AH} {i j : Nat} (hi : i < h.length) (hj : j < h.length) (hij : i ≠ j) (t : T) (ho : t.oper = 0) (hl : t.args.length ≤ 1000000)
    (l0 : t.kind = 0 → -9223372036854775807 ≤ t.int ∧ t.int ≤ 9223372036854775807) (l1 : t.kind = 1 → 0 ≤ t.int ∧ t.int ≤ 1048576)
    (ih : ∀ a ∈ t.args, TIh i j a) (hG : XO (HB h i j true (.empty))) (u : Bool) (tx : ByteArray)
    (s : ByteArray) (es : s = if t.kind = 0 then decZ t.int else if t.kind = 1 then vOf (decN t.int.toNat) else funT t.name (txts t.args)) (hs : tx.size + s.size ≤ 140737488355328) :
    Wri 86 [.ptr i 0 0, t.av] h i j u tx s := by
  have eav : t.av = .agg [.i t.kind, .i t.int, .v (.string t.name), .sl 4 (avs t.args) none] := by cases t; rfl
  obtain ⟨L, hL⟩ : ∃ L : AH, L = [AB.cells 134 1 [.ptr i 0 0], AB.cells 69 4 [t.av]] := ⟨_, rfl⟩
  have hlL : (h ++ L).length = h.length + 2 := by rw [hL]; simp
  have hi' : i < (h ++ L).length := by omega
  have hj' : j < (h ++ L).length := by omega
  have gapp := fun (u : Bool) (tx : ByteArray) (L : AH) => Qhu (h := h) (i := i) (j := j) hi hj u tx L
  have hG' : XO (HB (h ++ L) i j true (.empty)) := by rw [gapp]; exact HasG.app hG _
  have hG2 : XO (HB (h ++ L) i j u tx) := QkT hij hG'
  have ct := Qbm t (by simp only [maxLen]; omega)
  rw [ho, eav] at ct
  have f1 := Qew h i j
  have f2 := fun u tx L => Qdz h i j u tx L
  have f3 := fun u tx L => Qfy h i j u tx L
  have f6 := fun u tx L => Qda (h := h) hi hij u tx L
  by_cases k0 : t.kind = 0
  · rw [if_pos k0] at es
    rw [k0] at eav ct
    have c1 := Qei t.int (by have := l0 k0; omega) (l0 k0).2 _ hG2
    have c2 := wstr (h := h ++ L) hi' hj' hij u tx s hs
    rw [es] at c2
    rw [gapp, hL, eav] at c1
    rw [gapp, gapp, hL, eav] at c2
    rw [eav, es]
    refine Qh Tryz.func86 rfl Tryz.call86 Tryz.ntmps86 (congrArg Array.toList Tryz.results86) (by simp) ?_
    repeat (first | ((first | (with_reducible (first | refine Qa fun K E hK hE => ?_ | refine Qs ct ?_ | refine XL (FunW.call c1) (ZR _) ?_ | refine XL (FunW.call c2) ZN ?_)) | (refine XH (id := 9) [(0, 0), (1, 0), (2, 0), (3, 0), (4, 0), (5, 3), (6, 2)] mixed (by kernel_rfl) fun K hK => ?_)); simp -implicitDefEqProofs only [Xk, Xd, Xw, Qd, Qb, Qg, OpW, QR, aop, undef, AS.ev, Qc, Qq, Qk, QD, QlK, Ql3, AV.Qk5, Qy, Xh, QM, QlX, QlY, QC, QA, QI, Xm, QlZ, ↓reduceIte, QlQ, QlR, Nat.reduceAdd, Nat.reduceLT, Nat.reduceLeDiff, Nat.reduceEqDiff, QlP, Ql2, Qmb, Ql, QK, QL, aBin, hlen, happ, QlD, QlE, QlF, QlG, QlS, QlW, Ql5, Ql4, QS, XA, QlL, Qmo, ti3, ti69, Xu, XS, Qav, YO, Q5, f1, f2, f3, f6]) | (with_reducible (first | refine Qm ?_ | refine Qw ?_)) | ((with_reducible refine hK _ ?_); clear hK) | (refine Qj rfl ?_; simp only [↓reduceIte, QlH]))
    simp -implicitDefEqProofs only [QlF, QlJ, List.mapM_nil, Option.pure_def, QlF, QN, Qp, QlN]
    exact Yx hi hj hij (.keep (.tup _ fun x hx => by cases hx)) ⟨rfl, rfl⟩
  · rw [if_neg k0] at es
    have m0 : (t.kind == 0) = false := by simpa using k0
    by_cases k1 : t.kind = 1
    · rw [if_pos k1] at es
      rw [k1] at eav ct
      have z1 : ((1 : Int) == 0) = false := by decide
      have en : t.int = (t.int.toNat : Int) := by have := l1 k1; omega
      have c1 := Qiv t.int.toNat (by have := l1 k1; omega) _ hG2
      rw [← en] at c1
      have c2 := wstr (h := h ++ L) hi' hj' hij u tx s hs
      rw [es] at c2
      rw [gapp, hL, eav] at c1
      rw [gapp, gapp, hL, eav] at c2
      rw [eav, es]
      refine Qh Tryz.func86 rfl Tryz.call86 Tryz.ntmps86 (congrArg Array.toList Tryz.results86) (by simp) ?_
      repeat (first | ((first | (with_reducible (first | refine Qa fun K E hK hE => ?_ | refine Qs ct ?_ | refine XL (FunW.call c1) (ZR _) ?_ | refine XL (FunW.call c2) ZN ?_)) | (refine XH (id := 11) [(0, 0), (1, 0), (2, 0), (3, 0), (4, 0), (5, 3), (6, 2)] mixed (by kernel_rfl) fun K hK => ?_)); simp -implicitDefEqProofs only [Xk, Xd, Xw, Qd, Qb, Qg, OpW, QR, aop, undef, AS.ev, Qc, Qq, Qk, QD, QlK, Ql3, AV.Qk5, Qy, Xh, QM, QlX, QlY, QC, QA, QI, Xm, QlZ, ↓reduceIte, QlQ, QlR, Nat.reduceAdd, Nat.reduceLT, Nat.reduceLeDiff, Nat.reduceEqDiff, QlP, Ql2, Qmb, Ql, QK, QL, aBin, hlen, happ, QlD, QlE, QlF, QlG, QlS, QlW, Ql5, Ql4, QS, XA, QlL, Qmo, ti3, ti69, Xu, XS, Qav, YO, Q5, f1, f2, f3, f6, z1]) | (with_reducible (first | refine Qm ?_ | refine Qw ?_)) | ((with_reducible refine hK _ ?_); clear hK) | (refine Qj rfl ?_; simp only [↓reduceIte, QlH]))
      simp -implicitDefEqProofs only [QlF, QlJ, List.mapM_nil, Option.pure_def, QlF, QN, Qp, QlN]
      exact Yx hi hj hij (.keep (.tup _ fun x hx => by cases hx)) ⟨rfl, rfl⟩
    · rw [if_neg k1] at es
      have m1 : (t.kind == 1) = false := by simpa using k1
      have c1 := Z3 (h := h ++ L) hi' hj' hij t.args hl t.name (fun a ha h hi hj hG tx hs => ih a ha h hi hj hG true tx hs) hG' u tx (by rw [← es]; exact hs)
      rw [Wri, ← es, gapp, gapp, hL, eav] at c1
      rw [eav]
      refine Qh Tryz.func86 rfl Tryz.call86 Tryz.ntmps86 (congrArg Array.toList Tryz.results86) (by simp) ?_
      repeat (first | ((first | (with_reducible (first | refine Qa fun K E hK hE => ?_ | refine Qo fun K E hK hE => ?_ | refine Qs ct ?_ | refine FunW.ret (FunW.call c1) ?_))); simp -implicitDefEqProofs only [Qd, Qb, Qg, OpW, QR, aop, undef, AS.ev, Qc, Qq, Qk, QD, QlK, Ql3, AV.Qk5, Qy, Xh, QM, QlX, QlY, QC, QA, QI, Xm, QlZ, ↓reduceIte, QlQ, QlR, Nat.reduceAdd, Nat.reduceLT, Nat.reduceEqDiff, QlP, Ql2, Qmb, Ql, QK, QL, aBin, hlen, happ, QlD, QlE, QlF, QlS, QlW, Ql5, Ql4, QS, XA, Qmo, ti3, ti9, ti44, ti69, Xu, XM, XN, Qav, f1, f2, f3, m0, m1]) | (with_reducible (first | refine Qm ?_ | refine Qw ?_)) | ((with_reducible refine hK _ ?_); clear hK) | (refine Qj rfl ?_; simp only [↓reduceIte, QlH]))
      simp -implicitDefEqProofs only [QlF, QlJ, List.mapM_nil, Option.pure_def, QlF, QN, Qp, QlN]
      exact Yx hi hj hij (.keep (.tup _ fun x hx => by cases hx)) ⟨rfl, rfl⟩
mutual
theorem T.Qlf : ∀ (t : T), t.lex → ∀ (i j : Nat), i ≠ j → TIh i j t
  | .mk k x n l, hx, i, j, hij => fun h hi hj hG u tx hs => by
    obtain ⟨l0, l1, hl, hn, hll⟩ := hx
    have ih := Qbn l hll i j hij
    by_cases ho : (T.mk k x n l).oper = 0
    · have es : (T.mk k x n l).txt = if k = 0 then decZ x else if k = 1 then vOf (decN x.toNat) else funT n (txts l) := by rw [T.txt, if_neg (by simpa using ho)]
      exact Qiw hi hj hij (T.mk k x n l) ho hl l0 l1 ih hG u tx _ es hs
    · have hk : k = 2 ∧ l.length = 2 ∧ ofB n ≠ 0 := by
        simp only [T.oper] at ho
        split at ho
        · exact absurd rfl ho
        · rename_i hq
          exact ⟨Decidable.byContradiction fun e => hq (.inl e), Decidable.byContradiction fun e => hq (.inr e), ho⟩
      obtain ⟨rfl, h2, hon⟩ := hk
      match l, h2, hll, ih with
      | [a, c], _, hll, ih =>
        have et : (T.mk 2 x n [a, c]).txt = binT (ofB n) n a.oper c.oper a.txt c.txt := by rw [T.txt, if_pos ho]; rfl
        rw [et] at hs ⊢
        have la : a.args.length ≤ 1000000 := by cases a; exact hll.1.2.2.1
        have lc : c.args.length ≤ 1000000 := by cases c; exact hll.2.1.2.2.1
        exact Qj8 hi hj hij n x a c hn hon la lc (ih a (by simp)) (ih c (by simp)) hG u tx hs
theorem Qbn : ∀ (l : List T), lexL l → ∀ (i j : Nat), i ≠ j → ∀ a ∈ l, TIh i j a
  | [], _, _, _, _, a, ha => by cases ha
  | t :: l, hx, i, j, hij, a, ha => by
    have h1 := T.Qlf t hx.1 i j hij
    have h2 := Qbn l hx.2 i j hij
    rcases List.mem_cons.1 ha with e | e
    · rw [e]; exact h1
    · exact h2 a e
end
end Go.Proofs.YtenheconhibonaaGreatDoor.Ab
namespace Go.Proofs.YtenheconhibonaaGreatDoor.Ab
theorem Qki {c : Cx} (hst : St c) (id ty e : Nat) (p : Value) (hb : c.h[id]? = some (.cells ty 2 [.agg [.v p, .v (.slice none 0 0)]])) :
    ∃ c2, Ev c c2 ∧ St c2 ∧ c2.h = (c.h ++ [AB.grow e 1 0]).set id (AB.cells ty 2 [.agg [.v p, .sl 1 [] (some c.h.length)]]) ∧ c2.w = c.w := by
  obtain ⟨hev, hst1⟩ := Qiu hst e 1
  have hlt := QT hb
  have hb1 : (c.add c.w (.grow e 1 0) none).h[id]? = some (.cells ty 2 [.agg [.v p, .v (.slice none 0 0)]]) := by
    simp only [Cx.add]; rw [List.getElem?_append_left hlt]; exact hb
  obtain ⟨B, cur, hρ, hcur, h3, h4⟩ := hst1.blocks id _ hb1
  have hev2 := Ev.turn (b' := .cells ty 2 [.agg [.v p, .sl 1 [] (some c.h.length)]]) hst1 hb1 rfl hρ (w := c.w) rfl rfl rfl rfl (fun _ _ => rfl) (.inr ⟨_, rfl, rfl, fun _ cur _ h => ⟨cur, h, rfl⟩⟩)
  have htok : ((c.add c.w (.grow e 1 0) none).turn c.w id (.cells ty 2 [.agg [.v p, .sl 1 [] (some c.h.length)]])).tokNil c.h.length 1 := by
    refine ⟨by simp [Cx.turn, Cx.add], fun e2 s2 n2 hg2 => ?_⟩
    simp only [Cx.turn, Cx.add] at hg2
    rw [List.getElem?_set_ne (by omega), List.getElem?_append_right (Nat.le_refl _), Nat.sub_self] at hg2
    simp at hg2
    exact ⟨hg2.2.1.symm, fun _ => by simp [Cx.turn, Cx.add]⟩
  have hfl : flat [AV.agg [.v p, .v (.slice none 0 0)]] = [.v p, .v (.slice none 0 0)] := rfl
  have hst2 := St.turn (b' := .cells ty 2 [.agg [.v p, .sl 1 [] (some c.h.length)]]) hst1 hb1 rfl hρ (w := c.w) (fun _ _ => rfl) hev2 ⟨B, cur, hρ, hcur, (by simp [AV.cells]), by
    intro j a' hj
    have hj' : [AV.v p, .sl 1 [] (some c.h.length)][j]? = some a' := hj
    match j with
    | 0 =>
      simp only [QlD, QlJ] at hj'
      subst hj'
      obtain ⟨u, g1, g2, g3⟩ := h4 0 (.v p) (by rw [hfl]; rfl)
      exact ⟨u, g1, g2, g3.ev hst1 hev2⟩
    | 1 =>
      simp only [QlE, QlD, QlJ] at hj'
      subst hj'
      obtain ⟨u, g1, g2, g3⟩ := h4 1 (.v (.slice none 0 0)) (by rw [hfl]; rfl)
      cases g3
      exact ⟨_, g1, g2, .slnil _ _ fun b hb => by cases hb; exact htok⟩
    | j + 2 => simp at hj'⟩
  exact ⟨_, Ev.trans hst hev hev2, hst2, rfl, rfl⟩
theorem ZS {P : Program} {N : Nat} {code : Code} {Q : AExit → AS → Prop} {tm : Nat → AV} {h : AH} (id ty e : Nat) (p : Value) (hb : h[id]? = some (.cells ty 2 [.agg [.v p, .v (.slice none 0 0)]]))
    (H : Zb P N code Q ⟨tm, (h ++ [AB.grow e 1 0]).set id (AB.cells ty 2 [.agg [.v p, .sl 1 [] (some h.length)]])⟩) : Zb P N code Q ⟨tm, h⟩ := by
  intro F n base c a hF hst hr R hR
  have hh : c.h = h := hr.h
  subst hh
  obtain ⟨c2, hev, hst2, hh2, hw⟩ := Qki hst id ty e p hb
  rw [← hw]
  exact H F n base c2 a hF hst2 ⟨hh2, hr.size, Nat.le_trans hr.above hev.size, hr.defers.ev hev, RoundOk.ev hev hr.round, fun t => (hr.tm t).ev hst hev⟩ R fun e' s' c' a' ex hq h1 h2 h3 h4 => hR e' s' c' a' ex hq (Ev.trans hst hev h1) h2 h3 h4
theorem Qhe {P : Program} {fv : AV} {args : List AV} {h : AH} {Q : AOut → AH → Prop} (id ty e : Nat) (p : Value) (hb : h[id]? = some (.cells ty 2 [.agg [.v p, .v (.slice none 0 0)]]))
    (H : FunW P fv args ((h ++ [AB.grow e 1 0]).set id (AB.cells ty 2 [.agg [.v p, .sl 1 [] (some h.length)]])) Q) : FunW P fv args h Q := by
  intro F n c v vals hF hs hh hv hvs o a next Qx h1 h2
  subst hh
  obtain ⟨c2, hev, hst2, hh2, hw⟩ := Qki hs id ty e p hb
  rw [← hw]
  exact H F n c2 v vals hF hst2 hh2 (hv.ev hs hev) (hvs.ev hs hev) o a next Qx (fun r c' x hQ he => h1 r c' x hQ (Ev.trans hs hev he)) (fun r c' x hQ he => h2 r c' x hQ (Ev.trans hs hev he))
end Go.Proofs.YtenheconhibonaaGreatDoor.Ab
set_option maxRecDepth 4000
namespace Go.Proofs.YtenheconhibonaaGreatDoor.Ab
open Go.Proofs
theorem QiD (fv : AV) : Pure Tryz.prog 82 [.b false, fv] (.v (.string { data := #[] })) := by
  intro h
  refine Qh Tryz.func82 rfl Tryz.call82 Tryz.ntmps82 (congrArg Array.toList Tryz.results82) (by simp) ?_
  repeat (first | (((with_reducible refine Qa fun K E hK hE => ?_)); simp -implicitDefEqProofs only [Qd, Qb, Qg, OpW, aop, undef, AS.ev, Qc, QF, Qk, QD, QlK, Ql1, ↓reduceIte, Nat.reduceLT, Nat.reduceEqDiff, QlF, Xb]) | (with_reducible (first | refine Qi fun K hK => ?_ | refine Qn ?_ | refine QB ?_)) | ((with_reducible refine hK _ ?_); clear hK) | (refine Qj rfl ?_; simp only [↓reduceIte]))
  simp only [QN, Qp, Qu, upd, ↓reduceIte, QlJ, QlN]; first | refine Qe (htake _ _) (.keep (.v _)) ⟨rfl, rfl⟩ | refine Qe List.take_length (.keep (.v _)) ⟨rfl, rfl⟩
theorem QhL (fv r : AV) (s : ByteArray) (h : AH) (h0 : 0 < s.size) (hs : s.size ≤ 140737488355328)
    (hw : FunW Tryz.prog fv [.ptr h.length 0 0] (HB (h ++ [AB.dead, AB.dead]) h.length (h.length + 1) false .empty) fun o h' => o = .ret r ∧ h' = HB (h ++ [AB.dead, AB.dead]) h.length (h.length + 1) true s) :
    Yd Tryz.prog 82 [.b true, fv] h fun o h' => o = .ret (.v (.string s)) ∧ h' = h := by
  have hi : h.length < (h ++ [AB.dead, AB.dead]).length := by simp
  have hj : h.length + 1 < (h ++ [AB.dead, AB.dead]).length := by simp
  have e0 : HB (h ++ [AB.dead, AB.dead]) h.length (h.length + 1) false .empty = h ++ [AB.cells 138 2 [.agg [.v (.pointer none), .sl 1 [] (some (h.length + 1))]], AB.grow 5 1 0] := by
    simp [HB, hs2, bw]; rfl
  have e1 : HB (h ++ [AB.dead, AB.dead]) h.length (h.length + 1) true s = h ++ [bw 138 h.length (h.length + 1) true s, AB.grow 5 1 s.size] := by
    simp [HB, hs2]
  have c1 := Qbr (ty := 138) (i := h.length) (j := h.length + 1) (by omega) s h0 hs (h ++ [AB.dead, AB.dead]) hi hj
  have e2 : hs2 (h ++ [AB.dead, AB.dead]) h.length (bw 138 h.length (h.length + 1) true s) (h.length + 1) .gone = h ++ [bw 138 h.length (h.length + 1) true s, AB.gone] := by
    simp [hs2]
  rw [e2, ← HB, e1] at c1
  rw [e1, e0] at hw
  refine Qh Tryz.func82 rfl Tryz.call82 Tryz.ntmps82 (congrArg Array.toList Tryz.results82) (by simp) ?_
  repeat (first | (((with_reducible refine Qa fun K E hK hE => ?_)); simp -implicitDefEqProofs only [Qd, Qb, Qg, OpW, aop, undef, AS.ev, Qc, QF, Qk, QD, QlK, Ql3, AV.Qk5, Qy, QlX, QlY, QP, Xc, QlZ, Ql0, ↓reduceIte, QlQ, QlR, Nat.reduceAdd, Nat.reduceLT, Nat.reduceEqDiff, QlP, QlF, QlS, QlW, Xb, Qk0]) | (with_reducible (first | refine Qi fun K hK => ?_ | refine Qv ?_ | refine Qf ?_)) | ((with_reducible refine hK _ ?_); clear hK) | (refine Qj rfl ?_; simp only [↓reduceIte, QlH]))
  refine Qhe h.length 138 5 (.pointer none) (by simp) ?_
  refine FunW.ret (h' := h ++ [bw 138 h.length (h.length + 1) true s, AB.grow 5 1 s.size]) (r := r) (by simpa using hw) ?_
  rw [bw1] at c1 ⊢
  simp -implicitDefEqProofs only [Qd, QR, Qc, Nat.reduceLT]
  repeat (first | ((first | (with_reducible (first | refine Qa fun K E hK hE => ?_ | refine FunW.ret (FunW.call c1) ?_))); simp -implicitDefEqProofs only [Qd, Qb, Qg, OpW, QR, aop, AS.ev, Qc, Qk, ↓reduceIte, Nat.reduceLT, Nat.reduceEqDiff, Ql2, Ql, QO, QlD, QlF, QlS, QlW, YO]) | (with_reducible refine Qn ?_) | ((with_reducible refine hK _ ?_); clear hK))
  simp only [QN, Qp, Qu, upd, ↓reduceIte, QlJ, QlN]; first | refine Qe (htake _ _) (.keep (.v _)) ⟨rfl, rfl⟩ | refine Qe List.take_length (.keep (.v _)) ⟨rfl, rfl⟩
end Go.Proofs.YtenheconhibonaaGreatDoor.Ab
