/-
  An abstract program logic, contracts of functions, and laws of terms and rules (part 3).
-/
import Derived.Test.YtenheconhibonaaGreatDoorAbTwo
import Derived.Lib.Strings
import Derived.Shelf.Strings.Builder1
import Derived.Shelf.Strconv.Itoa0
import Derived.Shelf.Strconv.Itoa1
import Derived.Shelf.LaysM
import Derived.Shelf.Strconv.Itoa2
import Derived.Shelf.Strconv.Itoa3
import Derived.Shelf.Strings.Search1
import Derived.Shelf.Strings.Search2
import Derived.Shelf.Strings.Search3
import Derived.Shelf.Strings.Shaped
import Derived.Test.YtenheconhibonaaGreatDoorProg
import Derived.Lib.ConvBytes
import Derived.Lib.AtoiErrMem
import Derived.ProofKit
import Derived.WalkKit
import Derived.OpenShut
import Derived.LaidSub
import Derived.Lib.LaidTab
import Derived.Lib.ItoaNum
import Derived.Lib.ItoaMem
import Derived.Lib.AtoiTie
import Derived.RecoverIn
set_option linter.unusedVariables false
set_option linter.unusedSimpArgs false
set_option maxHeartbeats 4000000
set_option linter.unusedSimpArgs false
set_option linter.unusedVariables false
set_option maxHeartbeats 4000000
set_option maxRecDepth 4000
namespace Go.Proofs.YtenheconhibonaaGreatDoor.Ab
open Go.Proofs
theorem FunW.call {P : Program} {f : FuncId} {args : List AV} {h : AH} {Q : AOut → AH → Prop} (H : XG P f args h Q) : FunW P (.fn (.func f) [] []) args h Q := FunW.fn (by rw [List.nil_append, List.append_nil]; exact H)
theorem FunW.ret {P : Program} {fv : AV} {args : List AV} {h h' : AH} {r : AV} {Q : AOut → AH → Prop} (H : FunW P fv args h fun o h2 => o = .ret r ∧ h2 = h') (k : Q (.ret r) h') : FunW P fv args h Q := H.mono (by rintro _ _ ⟨rfl, rfl⟩; exact k)
def ofN (c : Int) : Int := if 97 ≤ c ∧ c ≤ 122 then 1 else if (65 ≤ c ∧ c ≤ 90) ∨ c = 95 then 2 else if 48 ≤ c ∧ c ≤ 57 then 4 else 0
theorem Qib (c : Int) (hc : 0 ≤ c ∧ c < 256) : Pure Tryz.prog 135 [.v (.int .u8 c)] (.v (.int .u8 (ofN c))) := by
  intro h
  have hcs : c < 48 ∨ 48 ≤ c ∧ c ≤ 57 ∨ 58 ≤ c ∧ c ≤ 64 ∨ 65 ≤ c ∧ c ≤ 90 ∨ 91 ≤ c ∧ c ≤ 94 ∨ c = 95 ∨ c = 96 ∨ 97 ≤ c ∧ c ≤ 122 ∨ 122 < c := by omega
  rcases hcs with hc1 | hc1 | hc1 | hc1 | hc1 | hc1 | hc1 | hc1 | hc1
  · -- c < 48
    have e0 : ofN c = 0 := by simp only [ofN]; repeat' (first | rw [if_pos (by omega)] | rw [if_neg (by omega)])
    have a1 : ¬ 97 ≤ c := by omega
    have a2 : c ≤ 122 := by omega
    have a3 : ¬ 65 ≤ c := by omega
    have a4 : c ≤ 90 := by omega
    have a5 : ¬ 48 ≤ c := by omega
    have a6 : c ≤ 57 := by omega
    have a7 : (c == 95) = false := by simp; omega
    refine Qg Tryz.func135 rfl Tryz.call135 Tryz.ntmps135 (congrArg Array.toList Tryz.results135) (by simp) ?_
    repeat (first | ((first | (with_reducible (first | refine Qa fun K E hK hE => ?_ | refine Qn fun K E hK hE => ?_))); simp -implicitDefEqProofs only [Qf, Qb, Qi, OpW, aop, undef, AS.ev, Qc, Qq, Qz, Qm, QC, List.getD_cons_zero, ↓reduceIte, Nat.reduceLT, Nat.reduceEqDiff, aBin, List.getElem?_cons_zero, List.getElem?_cons_succ, Option.map_some, Option.bind_some, List.getElem?_toArray, QU, YB, decide_false, Bool.false_eq_true, beq_true, a1, a3, a5, a7]) | (with_reducible (first | refine Qh fun K hK => ?_ | refine Qk ?_ | refine Qo ?_ | refine Qt ?_ | refine Qe ?_ | refine Qs ?_)) | ((with_reducible refine hK _ ?_); clear hK) | (refine Qj rfl ?_; simp only [↓reduceIte, Bool.false_eq_true]))
    simp only [QO, Qp, Qv, upd, ↓reduceIte, Option.some.injEq, exists_eq_left']; first | refine Qd (htake _ _) (.keep (.v _)) ⟨by rw [e0], rfl⟩ | refine Qd List.take_length (.keep (.v _)) ⟨by rw [e0], rfl⟩
  · -- 48 ≤ c ∧ c ≤ 57
    have e0 : ofN c = 4 := by simp only [ofN]; repeat' (first | rw [if_pos (by omega)] | rw [if_neg (by omega)])
    have a1 : ¬ 97 ≤ c := by omega
    have a2 : c ≤ 122 := by omega
    have a3 : ¬ 65 ≤ c := by omega
    have a4 : c ≤ 90 := by omega
    have a5 : 48 ≤ c := by omega
    have a6 : c ≤ 57 := by omega
    have a7 : (c == 95) = false := by simp; omega
    refine Qg Tryz.func135 rfl Tryz.call135 Tryz.ntmps135 (congrArg Array.toList Tryz.results135) (by simp) ?_
    repeat (first | ((first | (with_reducible (first | refine Qa fun K E hK hE => ?_ | refine Qn fun K E hK hE => ?_))); simp -implicitDefEqProofs only [Qf, Qb, Qi, OpW, aop, undef, AS.ev, Qc, Qq, Qz, Qm, QC, List.getD_cons_zero, ↓reduceIte, Nat.reduceLT, Nat.reduceEqDiff, aBin, List.getElem?_cons_zero, List.getElem?_cons_succ, Option.map_some, Option.bind_some, List.getElem?_toArray, QU, YB, decide_true, decide_false, beq_self_eq_true, Bool.false_eq_true, beq_true, a1, a3, a5, a6, a7]) | (with_reducible (first | refine Qh fun K hK => ?_ | refine Qk ?_ | refine Qo ?_ | refine Qe ?_ | refine QA ?_ | refine QE ?_)) | ((with_reducible refine hK _ ?_); clear hK) | (refine Qj rfl ?_; simp only [↓reduceIte, Bool.false_eq_true]))
    simp only [QO, Qp, Qv, upd, ↓reduceIte, Option.some.injEq, exists_eq_left']; first | refine Qd (htake _ _) (.keep (.v _)) ⟨by rw [e0], rfl⟩ | refine Qd List.take_length (.keep (.v _)) ⟨by rw [e0], rfl⟩
  · -- 58 ≤ c ∧ c ≤ 64
    have e0 : ofN c = 0 := by simp only [ofN]; repeat' (first | rw [if_pos (by omega)] | rw [if_neg (by omega)])
    have a1 : ¬ 97 ≤ c := by omega
    have a2 : c ≤ 122 := by omega
    have a3 : ¬ 65 ≤ c := by omega
    have a4 : c ≤ 90 := by omega
    have a5 : 48 ≤ c := by omega
    have a6 : ¬ c ≤ 57 := by omega
    have a7 : (c == 95) = false := by simp; omega
    refine Qg Tryz.func135 rfl Tryz.call135 Tryz.ntmps135 (congrArg Array.toList Tryz.results135) (by simp) ?_
    repeat (first | ((first | (with_reducible (first | refine Qa fun K E hK hE => ?_ | refine Qn fun K E hK hE => ?_))); simp -implicitDefEqProofs only [Qf, Qb, Qi, OpW, aop, undef, AS.ev, Qc, Qq, Qz, Qm, QC, List.getD_cons_zero, ↓reduceIte, Nat.reduceLT, Nat.reduceEqDiff, aBin, List.getElem?_cons_zero, List.getElem?_cons_succ, Option.map_some, Option.bind_some, List.getElem?_toArray, QU, YB, decide_true, decide_false, beq_self_eq_true, Bool.false_eq_true, beq_true, a1, a3, a5, a6, a7]) | (with_reducible (first | refine Qh fun K hK => ?_ | refine Qk ?_ | refine Qo ?_ | refine Qt ?_ | refine Qe ?_ | refine Qs ?_)) | ((with_reducible refine hK _ ?_); clear hK) | (refine Qj rfl ?_; simp only [↓reduceIte, Bool.false_eq_true]))
    simp only [QO, Qp, Qv, upd, ↓reduceIte, Option.some.injEq, exists_eq_left']; first | refine Qd (htake _ _) (.keep (.v _)) ⟨by rw [e0], rfl⟩ | refine Qd List.take_length (.keep (.v _)) ⟨by rw [e0], rfl⟩
  · -- 65 ≤ c ∧ c ≤ 90
    have e0 : ofN c = 2 := by simp only [ofN]; repeat' (first | rw [if_pos (by omega)] | rw [if_neg (by omega)])
    have a1 : ¬ 97 ≤ c := by omega
    have a2 : c ≤ 122 := by omega
    have a3 : 65 ≤ c := by omega
    have a4 : c ≤ 90 := by omega
    have a5 : 48 ≤ c := by omega
    have a6 : ¬ c ≤ 57 := by omega
    have a7 : (c == 95) = false := by simp; omega
    refine Qg Tryz.func135 rfl Tryz.call135 Tryz.ntmps135 (congrArg Array.toList Tryz.results135) (by simp) ?_
    repeat (first | (((with_reducible refine Qa fun K E hK hE => ?_)); simp -implicitDefEqProofs only [Qf, Qb, Qi, OpW, aop, undef, AS.ev, Qc, Qq, Qz, Qm, QC, List.getD_cons_zero, ↓reduceIte, Nat.reduceLT, Nat.reduceEqDiff, aBin, List.getElem?_cons_zero, List.getElem?_cons_succ, Option.map_some, Option.bind_some, List.getElem?_toArray, YB, decide_true, decide_false, beq_self_eq_true, Bool.false_eq_true, beq_true, a1, a3, a4]) | (with_reducible (first | refine Qh fun K hK => ?_ | refine Qk ?_ | refine Qo ?_ | refine Qt ?_ | refine Qe ?_ | refine QA ?_ | refine QE ?_)) | ((with_reducible refine hK _ ?_); clear hK) | (refine Qj rfl ?_; simp only [↓reduceIte, Bool.false_eq_true]))
    simp only [QO, Qp, Qv, upd, ↓reduceIte, Option.some.injEq, exists_eq_left']; first | refine Qd (htake _ _) (.keep (.v _)) ⟨by rw [e0], rfl⟩ | refine Qd List.take_length (.keep (.v _)) ⟨by rw [e0], rfl⟩
  · -- 91 ≤ c ∧ c ≤ 94
    have e0 : ofN c = 0 := by simp only [ofN]; repeat' (first | rw [if_pos (by omega)] | rw [if_neg (by omega)])
    have a1 : ¬ 97 ≤ c := by omega
    have a2 : c ≤ 122 := by omega
    have a3 : 65 ≤ c := by omega
    have a4 : ¬ c ≤ 90 := by omega
    have a5 : 48 ≤ c := by omega
    have a6 : ¬ c ≤ 57 := by omega
    have a7 : (c == 95) = false := by simp; omega
    refine Qg Tryz.func135 rfl Tryz.call135 Tryz.ntmps135 (congrArg Array.toList Tryz.results135) (by simp) ?_
    repeat (first | ((first | (with_reducible (first | refine Qa fun K E hK hE => ?_ | refine Qn fun K E hK hE => ?_))); simp -implicitDefEqProofs only [Qf, Qb, Qi, OpW, aop, undef, AS.ev, Qc, Qq, Qz, Qm, QC, List.getD_cons_zero, ↓reduceIte, Nat.reduceLT, Nat.reduceEqDiff, aBin, List.getElem?_cons_zero, List.getElem?_cons_succ, Option.map_some, Option.bind_some, List.getElem?_toArray, QU, YB, decide_true, decide_false, beq_self_eq_true, Bool.false_eq_true, beq_true, a1, a3, a4, a5, a6, a7]) | (with_reducible (first | refine Qh fun K hK => ?_ | refine Qk ?_ | refine Qo ?_ | refine Qt ?_ | refine Qe ?_ | refine Qs ?_)) | ((with_reducible refine hK _ ?_); clear hK) | (refine Qj rfl ?_; simp only [↓reduceIte, Bool.false_eq_true]))
    simp only [QO, Qp, Qv, upd, ↓reduceIte, Option.some.injEq, exists_eq_left']; first | refine Qd (htake _ _) (.keep (.v _)) ⟨by rw [e0], rfl⟩ | refine Qd List.take_length (.keep (.v _)) ⟨by rw [e0], rfl⟩
  · -- c = 95
    have e0 : ofN c = 2 := by simp only [ofN]; repeat' (first | rw [if_pos (by omega)] | rw [if_neg (by omega)])
    have a1 : ¬ 97 ≤ c := by omega
    have a2 : c ≤ 122 := by omega
    have a3 : 65 ≤ c := by omega
    have a4 : ¬ c ≤ 90 := by omega
    have a5 : 48 ≤ c := by omega
    have a6 : ¬ c ≤ 57 := by omega
    have a7 : (c == 95) = true := by simp; omega
    refine Qg Tryz.func135 rfl Tryz.call135 Tryz.ntmps135 (congrArg Array.toList Tryz.results135) (by simp) ?_
    repeat (first | ((first | (with_reducible (first | refine Qa fun K E hK hE => ?_ | refine Qn fun K E hK hE => ?_))); simp -implicitDefEqProofs only [Qf, Qb, Qi, OpW, aop, undef, AS.ev, Qc, Qq, Qz, Qm, QC, List.getD_cons_zero, ↓reduceIte, Nat.reduceLT, Nat.reduceEqDiff, aBin, List.getElem?_cons_zero, List.getElem?_cons_succ, Option.map_some, Option.bind_some, List.getElem?_toArray, QU, YB, decide_true, decide_false, beq_self_eq_true, Bool.false_eq_true, beq_true, a1, a3, a4, a7]) | (with_reducible (first | refine Qh fun K hK => ?_ | refine Qk ?_ | refine Qo ?_ | refine Qe ?_ | refine QA ?_ | refine QE ?_)) | ((with_reducible refine hK _ ?_); clear hK) | (refine Qj rfl ?_; simp only [↓reduceIte, Bool.false_eq_true]))
    simp only [QO, Qp, Qv, upd, ↓reduceIte, Option.some.injEq, exists_eq_left']; first | refine Qd (htake _ _) (.keep (.v _)) ⟨by rw [e0], rfl⟩ | refine Qd List.take_length (.keep (.v _)) ⟨by rw [e0], rfl⟩
  · -- c = 96
    have e0 : ofN c = 0 := by simp only [ofN]; repeat' (first | rw [if_pos (by omega)] | rw [if_neg (by omega)])
    have a1 : ¬ 97 ≤ c := by omega
    have a2 : c ≤ 122 := by omega
    have a3 : 65 ≤ c := by omega
    have a4 : ¬ c ≤ 90 := by omega
    have a5 : 48 ≤ c := by omega
    have a6 : ¬ c ≤ 57 := by omega
    have a7 : (c == 95) = false := by simp; omega
    refine Qg Tryz.func135 rfl Tryz.call135 Tryz.ntmps135 (congrArg Array.toList Tryz.results135) (by simp) ?_
    repeat (first | ((first | (with_reducible (first | refine Qa fun K E hK hE => ?_ | refine Qn fun K E hK hE => ?_))); simp -implicitDefEqProofs only [Qf, Qb, Qi, OpW, aop, undef, AS.ev, Qc, Qq, Qz, Qm, QC, List.getD_cons_zero, ↓reduceIte, Nat.reduceLT, Nat.reduceEqDiff, aBin, List.getElem?_cons_zero, List.getElem?_cons_succ, Option.map_some, Option.bind_some, List.getElem?_toArray, QU, YB, decide_true, decide_false, beq_self_eq_true, Bool.false_eq_true, beq_true, a1, a3, a4, a5, a6, a7]) | (with_reducible (first | refine Qh fun K hK => ?_ | refine Qk ?_ | refine Qo ?_ | refine Qt ?_ | refine Qe ?_ | refine Qs ?_)) | ((with_reducible refine hK _ ?_); clear hK) | (refine Qj rfl ?_; simp only [↓reduceIte, Bool.false_eq_true]))
    simp only [QO, Qp, Qv, upd, ↓reduceIte, Option.some.injEq, exists_eq_left']; first | refine Qd (htake _ _) (.keep (.v _)) ⟨by rw [e0], rfl⟩ | refine Qd List.take_length (.keep (.v _)) ⟨by rw [e0], rfl⟩
  · -- 97 ≤ c ∧ c ≤ 122
    have e0 : ofN c = 1 := by simp only [ofN]; repeat' (first | rw [if_pos (by omega)] | rw [if_neg (by omega)])
    have a1 : 97 ≤ c := by omega
    have a2 : c ≤ 122 := by omega
    have a3 : 65 ≤ c := by omega
    have a4 : ¬ c ≤ 90 := by omega
    have a5 : 48 ≤ c := by omega
    have a6 : ¬ c ≤ 57 := by omega
    have a7 : (c == 95) = false := by simp; omega
    refine Qg Tryz.func135 rfl Tryz.call135 Tryz.ntmps135 (congrArg Array.toList Tryz.results135) (by simp) ?_
    repeat (first | (((with_reducible refine Qa fun K E hK hE => ?_)); simp -implicitDefEqProofs only [Qf, Qb, Qi, OpW, aop, undef, AS.ev, Qc, Qq, Qm, QC, List.getD_cons_zero, ↓reduceIte, Nat.reduceLT, Nat.reduceEqDiff, aBin, List.getElem?_cons_zero, List.getElem?_cons_succ, Option.map_some, Option.bind_some, List.getElem?_toArray, YB, decide_true, beq_self_eq_true, a1, a2]) | (with_reducible (first | refine Qh fun K hK => ?_ | refine Qk ?_ | refine Qo ?_ | refine QA ?_ | refine QE ?_)) | ((with_reducible refine hK _ ?_); clear hK) | (refine Qj rfl ?_; simp only [↓reduceIte]))
    simp only [QO, Qp, Qv, upd, ↓reduceIte, Option.some.injEq, exists_eq_left']; first | refine Qd (htake _ _) (.keep (.v _)) ⟨by rw [e0], rfl⟩ | refine Qd List.take_length (.keep (.v _)) ⟨by rw [e0], rfl⟩
  · -- 122 < c
    have e0 : ofN c = 0 := by simp only [ofN]; repeat' (first | rw [if_pos (by omega)] | rw [if_neg (by omega)])
    have a1 : 97 ≤ c := by omega
    have a2 : ¬ c ≤ 122 := by omega
    have a3 : 65 ≤ c := by omega
    have a4 : ¬ c ≤ 90 := by omega
    have a5 : 48 ≤ c := by omega
    have a6 : ¬ c ≤ 57 := by omega
    have a7 : (c == 95) = false := by simp; omega
    refine Qg Tryz.func135 rfl Tryz.call135 Tryz.ntmps135 (congrArg Array.toList Tryz.results135) (by simp) ?_
    repeat (first | ((first | (with_reducible (first | refine Qa fun K E hK hE => ?_ | refine Qn fun K E hK hE => ?_))); simp -implicitDefEqProofs only [Qf, Qb, Qi, OpW, aop, undef, AS.ev, Qc, Qq, Qm, QC, List.getD_cons_zero, ↓reduceIte, Nat.reduceLT, Nat.reduceEqDiff, aBin, List.getElem?_cons_zero, List.getElem?_cons_succ, Option.map_some, Option.bind_some, List.getElem?_toArray, QU, YB, decide_true, decide_false, beq_self_eq_true, a1, a2, a3, a4, a5, a6, a7]) | (with_reducible (first | refine Qh fun K hK => ?_ | refine Qk ?_ | refine Qo ?_ | refine Qt ?_ | refine Qe ?_ | refine Qs ?_)) | ((with_reducible refine hK _ ?_); clear hK) | (refine Qj rfl ?_; simp only [↓reduceIte, Bool.false_eq_true]))
    simp only [QO, Qp, Qv, upd, ↓reduceIte, Option.some.injEq, exists_eq_left']; first | refine Qd (htake _ _) (.keep (.v _)) ⟨by rw [e0], rfl⟩ | refine Qd List.take_length (.keep (.v _)) ⟨by rw [e0], rfl⟩
def resB (s : ByteArray) : Bool := (s.toList == ({ data := #[99, 111, 110, 115, 116, 114, 97, 105, 110, 116] } : ByteArray).toList) || (s.toList == ({ data := #[116, 114, 117, 101] } : ByteArray).toList) || (s.toList == ({ data := #[102, 97, 105, 108] } : ByteArray).toList) || (s.toList == ({ data := #[105, 115] } : ByteArray).toList) || (s.toList == ({ data := #[105, 110, 116] } : ByteArray).toList) || (s.toList == ({ data := #[103, 114, 111, 117, 110, 100] } : ByteArray).toList)
theorem QdM (s : ByteArray) : Pure Tryz.prog 99 [.v (.string s)] (.b (resB s)) := by
  intro h
  cases d0 : (s.toList == ({ data := #[99, 111, 110, 115, 116, 114, 97, 105, 110, 116] } : ByteArray).toList) with
  | true =>
    refine Qg Tryz.func99 rfl Tryz.call99 Tryz.ntmps99 (congrArg Array.toList Tryz.results99) (by simp) ?_
    repeat (first | (((with_reducible refine Qa fun K E hK hE => ?_)); simp -implicitDefEqProofs only [Qf, Qb, Qi, OpW, aop, undef, AS.ev, Qc, Qz, QM, Qm, QC, List.getD_cons_zero, ↓reduceIte, Nat.reduceLT, Nat.reduceEqDiff, aBin, Option.map_some, Xm, d0]) | (with_reducible (first | refine Qh fun K hK => ?_ | refine Qk ?_ | refine Qo ?_ | refine Qt ?_ | refine Qe ?_ | refine QA ?_ | refine QE ?_)) | ((with_reducible refine hK _ ?_); clear hK) | (refine Qj rfl ?_; simp only [↓reduceIte]))
    simp only [QO, Qp, Qv, upd, ↓reduceIte, Option.some.injEq, exists_eq_left']; first | refine Qd (htake _ _) (.keep (.v _)) ⟨by simp only [resB, d0, Bool.true_or], rfl⟩ | refine Qd List.take_length (.keep (.v _)) ⟨by simp only [resB, d0, Bool.true_or], rfl⟩
  | false =>
    cases d1 : (s.toList == ({ data := #[116, 114, 117, 101] } : ByteArray).toList) with
    | true =>
      refine Qg Tryz.func99 rfl Tryz.call99 Tryz.ntmps99 (congrArg Array.toList Tryz.results99) (by simp) ?_
      repeat (first | (((with_reducible refine Qa fun K E hK hE => ?_)); simp -implicitDefEqProofs only [Qf, Qb, Qi, OpW, aop, undef, AS.ev, Qc, Qz, QM, Qm, QC, List.getD_cons_zero, ↓reduceIte, Nat.reduceLT, Nat.reduceEqDiff, aBin, Option.map_some, Xm, d0, d1]) | (with_reducible (first | refine Qh fun K hK => ?_ | refine Qk ?_ | refine Qo ?_ | refine Qt ?_ | refine Qe ?_ | refine QA ?_ | refine QE ?_)) | ((with_reducible refine hK _ ?_); clear hK) | (refine Qj rfl ?_; simp only [↓reduceIte, Bool.false_eq_true]))
      simp only [QO, Qp, Qv, upd, ↓reduceIte, Option.some.injEq, exists_eq_left']; first | refine Qd (htake _ _) (.keep (.v _)) ⟨by simp only [resB, d0, d1, Bool.or_true, Bool.true_or], rfl⟩ | refine Qd List.take_length (.keep (.v _)) ⟨by simp only [resB, d0, d1, Bool.or_true, Bool.true_or], rfl⟩
    | false =>
      cases d2 : (s.toList == ({ data := #[102, 97, 105, 108] } : ByteArray).toList) with
      | true =>
        refine Qg Tryz.func99 rfl Tryz.call99 Tryz.ntmps99 (congrArg Array.toList Tryz.results99) (by simp) ?_
        repeat (first | (((with_reducible refine Qa fun K E hK hE => ?_)); simp -implicitDefEqProofs only [Qf, Qb, Qi, OpW, aop, undef, AS.ev, Qc, Qz, QM, Qm, QC, List.getD_cons_zero, ↓reduceIte, Nat.reduceLT, Nat.reduceEqDiff, aBin, Option.map_some, Xm, d0, d1, d2]) | (with_reducible (first | refine Qh fun K hK => ?_ | refine Qk ?_ | refine Qo ?_ | refine Qt ?_ | refine Qe ?_ | refine QA ?_ | refine QE ?_)) | ((with_reducible refine hK _ ?_); clear hK) | (refine Qj rfl ?_; simp only [↓reduceIte, Bool.false_eq_true]))
        simp only [QO, Qp, Qv, upd, ↓reduceIte, Option.some.injEq, exists_eq_left']; first | refine Qd (htake _ _) (.keep (.v _)) ⟨by simp only [resB, d0, d1, d2, Bool.or_false, Bool.or_true, Bool.true_or], rfl⟩ | refine Qd List.take_length (.keep (.v _)) ⟨by simp only [resB, d0, d1, d2, Bool.or_false, Bool.or_true, Bool.true_or], rfl⟩
      | false =>
        cases d3 : (s.toList == ({ data := #[105, 115] } : ByteArray).toList) with
        | true =>
          refine Qg Tryz.func99 rfl Tryz.call99 Tryz.ntmps99 (congrArg Array.toList Tryz.results99) (by simp) ?_
          repeat (first | (((with_reducible refine Qa fun K E hK hE => ?_)); simp -implicitDefEqProofs only [Qf, Qb, Qi, OpW, aop, undef, AS.ev, Qc, Qz, QM, Qm, QC, List.getD_cons_zero, ↓reduceIte, Nat.reduceLT, Nat.reduceEqDiff, aBin, Option.map_some, Xm, d0, d1, d2, d3]) | (with_reducible (first | refine Qh fun K hK => ?_ | refine Qk ?_ | refine Qo ?_ | refine Qt ?_ | refine Qe ?_ | refine QA ?_ | refine QE ?_)) | ((with_reducible refine hK _ ?_); clear hK) | (refine Qj rfl ?_; simp only [↓reduceIte, Bool.false_eq_true]))
          simp only [QO, Qp, Qv, upd, ↓reduceIte, Option.some.injEq, exists_eq_left']; first | refine Qd (htake _ _) (.keep (.v _)) ⟨by simp only [resB, d0, d1, d2, d3, Bool.or_false, Bool.or_true, Bool.true_or], rfl⟩ | refine Qd List.take_length (.keep (.v _)) ⟨by simp only [resB, d0, d1, d2, d3, Bool.or_false, Bool.or_true, Bool.true_or], rfl⟩
        | false =>
          cases d4 : (s.toList == ({ data := #[105, 110, 116] } : ByteArray).toList) with
          | true =>
            refine Qg Tryz.func99 rfl Tryz.call99 Tryz.ntmps99 (congrArg Array.toList Tryz.results99) (by simp) ?_
            repeat (first | (((with_reducible refine Qa fun K E hK hE => ?_)); simp -implicitDefEqProofs only [Qf, Qb, Qi, OpW, aop, undef, AS.ev, Qc, Qz, QM, Qm, QC, List.getD_cons_zero, ↓reduceIte, Nat.reduceLT, Nat.reduceEqDiff, aBin, Option.map_some, Xm, d0, d1, d2, d3, d4]) | (with_reducible (first | refine Qh fun K hK => ?_ | refine Qk ?_ | refine Qo ?_ | refine Qt ?_ | refine Qe ?_ | refine QA ?_ | refine QE ?_)) | ((with_reducible refine hK _ ?_); clear hK) | (refine Qj rfl ?_; simp only [↓reduceIte, Bool.false_eq_true]))
            simp only [QO, Qp, Qv, upd, ↓reduceIte, Option.some.injEq, exists_eq_left']; first | refine Qd (htake _ _) (.keep (.v _)) ⟨by simp only [resB, d0, d1, d2, d3, d4, Bool.or_false, Bool.or_true, Bool.true_or], rfl⟩ | refine Qd List.take_length (.keep (.v _)) ⟨by simp only [resB, d0, d1, d2, d3, d4, Bool.or_false, Bool.or_true, Bool.true_or], rfl⟩
          | false =>
            cases d5 : (s.toList == ({ data := #[103, 114, 111, 117, 110, 100] } : ByteArray).toList) with
            | true =>
              refine Qg Tryz.func99 rfl Tryz.call99 Tryz.ntmps99 (congrArg Array.toList Tryz.results99) (by simp) ?_
              repeat (first | ((first | (with_reducible (first | refine Qa fun K E hK hE => ?_ | refine Qn fun K E hK hE => ?_))); simp -implicitDefEqProofs only [Qf, Qb, Qi, OpW, aop, undef, AS.ev, Qc, Qz, QM, Qm, QC, List.getD_cons_zero, ↓reduceIte, Nat.reduceLT, Nat.reduceEqDiff, aBin, Option.map_some, Xm, d0, d1, d2, d3, d4, d5]) | (with_reducible (first | refine Qh fun K hK => ?_ | refine Qk ?_ | refine Qo ?_ | refine Qe ?_ | refine QA ?_ | refine QE ?_)) | ((with_reducible refine hK _ ?_); clear hK) | (refine Qj rfl ?_; simp only [↓reduceIte, Bool.false_eq_true]))
              simp only [QO, Qp, Qv, upd, ↓reduceIte, Option.some.injEq, exists_eq_left']; first | refine Qd (htake _ _) (.keep (.v _)) ⟨by simp only [resB, d0, d1, d2, d3, d4, d5, Bool.or_false, Bool.or_true], rfl⟩ | refine Qd List.take_length (.keep (.v _)) ⟨by simp only [resB, d0, d1, d2, d3, d4, d5, Bool.or_false, Bool.or_true], rfl⟩
            | false =>
              refine Qg Tryz.func99 rfl Tryz.call99 Tryz.ntmps99 (congrArg Array.toList Tryz.results99) (by simp) ?_
              repeat (first | ((first | (with_reducible (first | refine Qa fun K E hK hE => ?_ | refine Qn fun K E hK hE => ?_))); simp -implicitDefEqProofs only [Qf, Qb, Qi, OpW, aop, undef, AS.ev, Qc, Qz, QM, Qm, QC, List.getD_cons_zero, ↓reduceIte, Nat.reduceLT, Nat.reduceEqDiff, aBin, Option.map_some, Xm, d0, d1, d2, d3, d4, d5]) | (with_reducible (first | refine Qh fun K hK => ?_ | refine Qk ?_ | refine Qo ?_ | refine Qt ?_ | refine Qe ?_ | refine Qs ?_)) | ((with_reducible refine hK _ ?_); clear hK) | (refine Qj rfl ?_; simp only [↓reduceIte, Bool.false_eq_true]))
              simp only [QO, Qp, Qv, upd, ↓reduceIte, Option.some.injEq, exists_eq_left']; first | refine Qd (htake _ _) (.keep (.v _)) ⟨by simp only [resB, d0, d1, d2, d3, d4, d5, Bool.or_false], rfl⟩ | refine Qd List.take_length (.keep (.v _)) ⟨by simp only [resB, d0, d1, d2, d3, d4, d5, Bool.or_false], rfl⟩
end Go.Proofs.YtenheconhibonaaGreatDoor.Ab
set_option linter.unusedSimpArgs false
set_option linter.unusedVariables false
set_option maxHeartbeats 4000000
set_option maxRecDepth 4000
namespace Go.Proofs.YtenheconhibonaaGreatDoor.Ab
open Go.Proofs
theorem Qf3 (s : ByteArray) (k : Nat) : byteAt (s.extract 1 s.size) k = byteAt s (k + 1) := by
  unfold byteAt
  rw [Lib.extract_data, List.take_of_length_le (by rw [List.length_drop, ← Lib.size_eq]; omega), List.getD_eq_getElem?_getD, List.getD_eq_getElem?_getD, List.getElem?_drop, Nat.add_comm 1 k]
theorem Qfz (s : ByteArray) : (s.extract 1 s.size).size = s.size - 1 := by
  rw [Lib.size_eq, Lib.extract_data, List.length_take, List.length_drop, ← Lib.size_eq]; omega
def fol (c : Int) : Prop := ofN c ≠ 0
instance (c : Int) : Decidable (fol c) := by unfold fol; infer_instance
theorem Qhm (c : Int) : fol c ↔ (97 ≤ c ∧ c ≤ 122) ∨ (65 ≤ c ∧ c ≤ 90) ∨ c = 95 ∨ (48 ≤ c ∧ c ≤ 57) := by
  unfold fol ofN
  split
  · constructor
    · intro _; omega
    · intro _; decide
  · split
    · constructor
      · intro _; omega
      · intro _; decide
    · split
      · constructor
        · intro _; omega
        · intro _; decide
      · constructor
        · intro h; exact absurd rfl h
        · intro _; omega
def Fol (s : ByteArray) : Prop := ∀ k, k < s.size → fol (byteAt s k)
instance (s : ByteArray) : Decidable (Fol s) := by unfold Fol; infer_instance
theorem QeR (c : Int) : ofN c = 0 ∨ ofN c = 1 ∨ ofN c = 2 ∨ ofN c = 4 := by
  unfold ofN
  repeat' split
  all_goals simp
theorem Qis (r : Int) (hr : 0 ≤ r ∧ r < 2147483648) : Pure Tryz.prog 137 [.v (.int .i32 r)] (.b (decide (122 < r ∨ ¬ fol r))) := by
  intro h
  by_cases h1 : r > 122
  · refine Qg Tryz.func137 rfl Tryz.call137 Tryz.ntmps137 (congrArg Array.toList Tryz.results137) (by simp) ?_
    repeat (first | (((with_reducible refine Qa fun K E hK hE => ?_)); simp -implicitDefEqProofs only [Qf, Qb, Qi, OpW, aop, undef, AS.ev, Qc, Qq, Qz, Qm, QC, List.getD_cons_zero, Bool.not_true, ↓reduceIte, Nat.reduceLT, Nat.reduceEqDiff, aBin, List.getElem?_cons_zero, List.getElem?_cons_succ, Option.map_some, Option.bind_some, List.getElem?_toArray, Q6, decide_true, beq_false, h1]) | (with_reducible refine Qo ?_) | ((with_reducible refine hK _ ?_); clear hK))
    simp only [QO, Qp, Qv, upd, ↓reduceIte, Option.some.injEq, exists_eq_left']; first | refine Qd (htake _ _) (.keep (.v _)) ⟨by rw [decide_eq_true (.inl h1)], rfl⟩ | refine Qd List.take_length (.keep (.v _)) ⟨by rw [decide_eq_true (.inl h1)], rfl⟩
  · have hcv := Qjv Tryz.prog 21 5 (ts := .int .i32) (kd := .u8) (by kernel_rfl) (by kernel_rfl) .i32
    have w0 : IntKind.u8.wrap r = r := by simp [IntKind.wrap, IntKind.bits, IntKind.signed]; omega
    have c := Qib r (by omega)
    have hf : decide (122 < r ∨ ¬ fol r) = (ofN r == 0) := by
      by_cases h0 : ofN r = 0
      · rw [h0, decide_eq_true (.inr fun h => h h0)]; rfl
      · rw [decide_eq_false (by rintro (h | h); exact h1 h; exact h h0)]; simp [h0]
    have ha : ∀ xo yo a, a = 0 ∨ a = 1 ∨ a = 2 ∨ a = 4 → pv Tryz.prog (do eqGuard .and 146 xo yo (.int .u8 a) (.int .u8 7); binOp .and 146 (.int .u8 a) (.int .u8 7)) = some (.int .u8 a) := by
      rintro xo yo a (rfl | rfl | rfl | rfl) <;> rfl
    have ha' := fun xo yo => ha xo yo (ofN r) (QeR r)
    refine Qg Tryz.func137 rfl Tryz.call137 Tryz.ntmps137 (congrArg Array.toList Tryz.results137) (by simp) ?_
    repeat (first | ((first | (with_reducible (first | refine Qa fun K E hK hE => ?_ | refine Qy c ?_))); simp -implicitDefEqProofs only [Qf, Qb, Qi, OpW, QW, aop, undef, AS.ev, Qc, Qq, Qz, Qm, QC, List.getD_cons_zero, ↓reduceIte, Nat.reduceLT, Nat.reduceEqDiff, aBin, List.getElem?_cons_zero, List.getElem?_cons_succ, Option.map_some, Option.bind_some, List.getElem?_toArray, List.map_cons, List.map_nil, QU, Q6, decide_false, beq_self_eq_true, Bool.false_eq_true, h1, hcv, w0, ha']) | (with_reducible refine Qo ?_) | ((with_reducible refine hK _ ?_); clear hK))
    simp only [QO, Qp, Qv, upd, ↓reduceIte, Option.some.injEq, exists_eq_left']; first | refine Qd (htake _ _) (.keep (.v _)) ⟨by rw [hf], rfl⟩ | refine Qd List.take_length (.keep (.v _)) ⟨by rw [hf], rfl⟩
/-- the first byte that does not follow -/
def ixR (s : ByteArray) : Nat → Nat → Int
  | _, 0 => -1
  | p, n + 1 => if fol (byteAt s p) then ixR s (p + 1) n else p
theorem QhZ (s : ByteArray) : ∀ (n p : Nat), ixR s p n < 0 ↔ ∀ k, p ≤ k → k < p + n → fol (byteAt s k)
  | 0, p => by simp only [ixR]; exact ⟨fun _ k h1 h2 => by omega, fun _ => by omega⟩
  | n + 1, p => by
    simp only [ixR]
    split
    · rename_i h
      rw [QhZ s n (p + 1)]
      constructor
      · intro h' k h1 h2
        by_cases hk : k = p
        · rw [hk]; exact h
        · exact h' k (by omega) (by omega)
      · intro h' k h1 h2; exact h' k (by omega) (by omega)
    · rename_i h
      constructor
      · intro h'; omega
      · intro h'; exact absurd (h' p (Nat.le_refl _) (by omega)) h
theorem QhU (s : ByteArray) (i : Nat) : (Utf8.decode s i).1 < 2147483648 := by
  unfold Utf8.decode
  have hr : Utf8.runeError < 2147483648 := by decide
  have hb : ∀ k, (s.get! k).toNat < 256 := fun k => (s.get! k).toNat_lt
  have b0 := hb (i + 0)
  have b1 := hb (i + 1)
  have b2 := hb (i + 2)
  have b3 := hb (i + 3)
  simp only
  repeat' split
  all_goals first | exact hr | (simp only; omega)
theorem Qc6 (b : ByteArray) (hs : b.size ≤ maxLen) : Pure Tryz.prog 158 [.v (.string b), .fn (.func 137) [] [], .b true] (.i (ixR b 0 b.size)) := by
  intro h
  have hbe := fun xo yo a b => Qjs Tryz.prog 4 xo yo (by kernel_rfl) a b
  refine Qg Tryz.func158 rfl Tryz.call158 Tryz.ntmps158 (congrArg Array.toList Tryz.results158) (by simp) ?_
  repeat (first | (((with_reducible refine Qa fun K E hK hE => ?_)); simp -implicitDefEqProofs only [Qf, Qb, Qi, OpW, aop, undef, AS.ev, Qc, Qq, Qm, QC, List.getD_cons_zero, ↓reduceIte, Nat.reduceLT, Nat.reduceEqDiff, un9]) | (with_reducible (first | refine Qh fun K hK => ?_ | refine Qk ?_)) | ((with_reducible refine hK _ ?_); clear hK))
  obtain ⟨I, hI⟩ : ∃ I : Nat → AS → Prop, I = fun m' s => ∃ (p : Nat), m' = b.size - p ∧ p ≤ b.size ∧ ixR b 0 b.size = ixR b p (b.size - p) ∧ s.tm 1 = .fn (.func 137) [] [] ∧ s.tm 2 = .b true ∧ s.tm 10 = .mp h.length ∧ s.h = h ++ [.iter b p] := ⟨_, rfl⟩; refine Q4 I ?_ (m := b.size) ?_
  · intro m' s hs; rw [hI] at hs; obtain ⟨tm, hp⟩ := s; dsimp only at hs; obtain ⟨p, rfl, hp', he, t1, t2, t10, rfl⟩ := hs
    by_cases hlt : p < b.size
    · have c := Qis ((Utf8.decode b p).1 : Int) ⟨by omega, by have := QhU b p; omega⟩
      obtain ⟨n, hn⟩ : ∃ n, b.size - p = n + 1 := ⟨b.size - p - 1, by omega⟩
      rw [hn, ixR] at he
      by_cases hf : fol (byteAt b p)
      · rw [if_pos hf] at he
        have hb : byteAt b p < 128 := by have := (Qhm _).1 hf; omega
        obtain ⟨d1, d2⟩ := decode_ascii hb
        have hc : decide (122 < ((Utf8.decode b p).1 : Int) ∨ ¬ fol ((Utf8.decode b p).1 : Int)) = false := by
          rw [d1]
          refine decide_eq_false ?_
          rintro (h1 | h1)
          · have := (Qhm _).1 hf; omega
          · exact h1 hf
        rw [hc] at c
        repeat (first | ((first | (with_reducible (first | refine Qa fun K E hK hE => ?_ | refine Qy c ?_))); simp -implicitDefEqProofs only [Qf, Qb, Qi, OpW, QW, aop, AS.ev, Qc, Qm, ↓reduceIte, Nat.reduceLT, Nat.reduceEqDiff, aBin, ZD, QX, X0, List.getElem?_cons_zero, List.getElem?_cons_succ, List.set_cons_zero, Option.map_some, List.map_cons, List.map_nil, goInt, beq_true, Qaf, t1, t2, t10, hlt, d2, hbe]) | (with_reducible (first | refine Qh fun K hK => ?_ | refine Qk ?_ | refine Qt ?_ | refine Qe ?_ | refine Qs ?_)) | ((with_reducible refine hK _ ?_); clear hK) | (refine Qj rfl ?_; simp only [↓reduceIte, Bool.false_eq_true]))
        refine XE.mk (m' := b.size - (p + 1)) (by omega) ?_
        rw [hI]
        exact ⟨p + 1, rfl, hlt, by rw [he, show n = b.size - (p + 1) by omega], t1, t2, t10, rfl⟩
      · rw [if_neg hf] at he
        have hc : decide (122 < ((Utf8.decode b p).1 : Int) ∨ ¬ fol ((Utf8.decode b p).1 : Int)) = true := by
          refine decide_eq_true ?_
          by_cases hb : byteAt b p < 128
          · right; rw [(decode_ascii hb).1]; exact hf
          · left; have := Qha (s := b) (i := p) (by omega); omega
        rw [hc] at c
        repeat (first | ((first | (with_reducible (first | refine Qa fun K E hK hE => ?_ | refine Qy c ?_))); simp -implicitDefEqProofs only [Qf, Qb, Qi, OpW, QW, aop, AS.ev, Qc, Qm, ↓reduceIte, Nat.reduceLT, Nat.reduceEqDiff, aBin, ZD, QX, X0, List.getElem?_cons_zero, List.getElem?_cons_succ, List.set_cons_zero, Option.map_some, List.map_cons, List.map_nil, goInt, beq_self_eq_true, Qaf, t1, t2, t10, hlt, hbe]) | (with_reducible (first | refine Qh fun K hK => ?_ | refine Qk ?_ | refine Qo ?_ | refine Qt ?_ | refine Qe ?_ | refine QA ?_ | refine QE ?_)) | ((with_reducible refine hK _ ?_); clear hK) | (refine Qj rfl ?_; simp only [↓reduceIte]))
        simp only [QO, Qp, Qv, upd, ↓reduceIte, Option.some.injEq, exists_eq_left']; first | refine Qd (htake _ _) (.keep (.v _)) ⟨by rw [he], rfl⟩ | refine Qd List.take_length (.keep (.v _)) ⟨by rw [he], rfl⟩
    · rw [show b.size - p = 0 by omega, ixR] at he
      repeat (first | (((with_reducible refine Qa fun K E hK hE => ?_)); simp -implicitDefEqProofs only [Qf, Qb, Qi, OpW, aop, AS.ev, Qc, Qq, Qm, ↓reduceIte, Nat.reduceLT, ZD, QX, List.getElem?_cons_zero, Option.map_some, Qaf, t10, hlt]) | (with_reducible (first | refine Qh fun K hK => ?_ | refine Qo ?_ | refine Q1 ?_ | refine Qe ?_ | refine QS ?_ | refine QR ?_)) | ((with_reducible refine hK _ ?_); clear hK) | (clear hK; (with_reducible refine hK _ ?_); clear hK) | (refine Qj rfl ?_; simp only [↓reduceIte, Bool.false_eq_true]))
      simp only [QO, Qp, Qv, upd, ↓reduceIte, Option.some.injEq, exists_eq_left']; first | refine Qd (htake _ _) (.keep (.v _)) ⟨by rw [he], rfl⟩ | refine Qd List.take_length (.keep (.v _)) ⟨by rw [he], rfl⟩
  · rw [hI]
    exact ⟨0, by omega, Nat.zero_le _, rfl, rfl, rfl, rfl, rfl⟩
theorem QbM (b : ByteArray) (hs : b.size ≤ maxLen) : Pure Tryz.prog 136 [.v (.string b), .fn (.func 137) [] []] (.i (ixR b 0 b.size)) := by
  intro h
  have c := Qc6 b hs
  refine Qg Tryz.func136 rfl Tryz.call136 Tryz.ntmps136 (congrArg Array.toList Tryz.results136) (by simp) ?_
  repeat (first | ((first | (with_reducible (first | refine Qa fun K E hK hE => ?_ | refine Qy c ?_))); simp -implicitDefEqProofs only [Qf, Qb, Qi, OpW, QW, aop, undef, AS.ev, Qc, Qq, Qz, Qm, QC, List.getD_cons_zero, List.getD_cons_succ, ↓reduceIte, Nat.reduceLT, Nat.reduceEqDiff, List.map_cons, List.map_nil]) | (with_reducible refine Qo ?_) | ((with_reducible refine hK _ ?_); clear hK))
  simp only [QO, Qp, Qv, upd, ↓reduceIte, Option.some.injEq, exists_eq_left']; first | refine Qd (htake _ _) (.keep (.v _)) ⟨rfl, rfl⟩ | refine Qd List.take_length (.keep (.v _)) ⟨rfl, rfl⟩
def QdR (first : Int) (s : ByteArray) : Prop := 1 ≤ s.size ∧ s.size ≤ 40 ∧ ofN (byteAt s 0) = first ∧ Fol s
instance (first : Int) (s : ByteArray) : Decidable (QdR first s) := by unfold QdR; infer_instance
theorem QbN (s : ByteArray) : (s.toList == ({ data := #[] } : ByteArray).toList) = decide (s.size = 0) := by
  rw [Lib.toList_data, Lib.toList_data, Lib.size_eq]
  cases s.data.toList <;> simp
theorem QhV (first : Int) (hf : first = 1 ∨ first = 2) (s : ByteArray) : Pure Tryz.prog 98 [.v (.string s), .v (.int .u8 first)] (.b (decide (QdR first s))) := by
  intro h
  have hsl := fun b => Qaz Tryz.prog 9 3 (by kernel_rfl) b
  by_cases n0 : s.size = 0
  · have d0 : (s.toList == ({ data := #[] } : ByteArray).toList) = true := by rw [QbN, decide_eq_true n0]
    refine Qg Tryz.func98 rfl Tryz.call98 Tryz.ntmps98 (congrArg Array.toList Tryz.results98) (by simp) ?_
    repeat (first | (((with_reducible refine Qa fun K E hK hE => ?_)); simp -implicitDefEqProofs only [Qf, Qb, Qi, OpW, aop, undef, AS.ev, Qc, Qz, QM, Qm, QC, List.getD_cons_zero, Bool.not_true, ↓reduceIte, Nat.reduceLT, Nat.reduceEqDiff, aBin, List.getElem?_cons_zero, List.getElem?_cons_succ, Option.map_some, Option.bind_some, List.getElem?_toArray, Xm, beq_false, d0]) | (with_reducible (first | refine Qh fun K hK => ?_ | refine Qo ?_ | refine QA ?_)) | ((with_reducible refine hK _ ?_); clear hK) | (refine Qj rfl ?_; simp only [↓reduceIte]))
    simp only [QO, Qp, Qv, upd, ↓reduceIte, Option.some.injEq, exists_eq_left']; first | refine Qd (htake _ _) (.keep (.v _)) ⟨by rw [decide_eq_false (fun h => by have := h.1; omega)], rfl⟩ | refine Qd List.take_length (.keep (.v _)) ⟨by rw [decide_eq_false (fun h => by have := h.1; omega)], rfl⟩
  · have d0 : (s.toList == ({ data := #[] } : ByteArray).toList) = false := by rw [QbN, decide_eq_false n0]
    by_cases n1 : s.size ≤ 40
    · have m1 : ¬ ((s.size : Int) > 40) := by omega
      have hix := Qhh Tryz.prog 9 (by kernel_rfl) s (by omega)
      have hr := Qg5 s 0
      have c := Qib (byteAt s 0) hr
      have ha : ∀ xo yo a, a = 0 ∨ a = 1 ∨ a = 2 ∨ a = 4 → pv Tryz.prog (do eqGuard .and 146 xo yo (.int .u8 a) (.int .u8 first); binOp .and 146 (.int .u8 a) (.int .u8 first)) = some (.int .u8 (if a = first then first else 0)) := by
        rcases hf with rfl | rfl <;> rintro xo yo a (rfl | rfl | rfl | rfl) <;> rfl
      have ha' := fun xo yo => ha xo yo (ofN (byteAt s 0)) (QeR _)
      by_cases hc : ofN (byteAt s 0) = first
      · have f0 : (first == 0) = false := by simp; omega
        have hsf := QiW Tryz.prog 9 (by kernel_rfl) s 1 (by omega)
        have hsf' : pv Tryz.prog (Instr.sliceAt 9 (.string s) (some (.int .i64 1)) none none) = some (.string (s.extract 1 s.size)) := hsf
        have ci := QbM (s.extract 1 s.size) (by rw [Qfz]; simp only [maxLen]; omega)
        have hi : decide (ixR (s.extract 1 s.size) 0 (s.extract 1 s.size).size < 0) = decide (QdR first s) := by
          rw [decide_eq_decide, QhZ]
          simp only [Qfz, Qf3, Nat.zero_add]
          constructor
          · intro h1
            refine ⟨by omega, n1, hc, fun k hk => ?_⟩
            cases k with
            | zero => show ofN _ ≠ 0; rw [hc]; omega
            | succ k => exact h1 k (Nat.zero_le _) (by omega)
          · rintro ⟨_, _, _, h4⟩ k _ hk
            exact h4 (k + 1) (by omega)
        rw [if_pos hc] at ha'
        refine Qg Tryz.func98 rfl Tryz.call98 Tryz.ntmps98 (congrArg Array.toList Tryz.results98) (by simp) ?_
        repeat (first | ((first | (with_reducible (first | refine Qa fun K E hK hE => ?_ | refine Qy c ?_ | refine Qy ci ?_))); simp -implicitDefEqProofs only [Qf, Qb, Qi, OpW, QW, aop, undef, AS.ev, Qc, Qq, Qz, QM, Qm, QC, List.getD_cons_zero, List.getD_cons_succ, ↓reduceIte, Nat.reduceLT, Nat.reduceEqDiff, aBin, QcJ, aLen, List.getElem?_cons_zero, List.getElem?_cons_succ, Option.map_some, Option.map_none, Option.bind_some, List.getElem?_toArray, List.map_cons, List.map_nil, QU, QY, Q6, Xm, goInt, decide_false, beq_self_eq_true, Bool.false_eq_true, ei9, d0, hsl, m1, hix, ha', f0, hsf']) | (with_reducible (first | refine Qh fun K hK => ?_ | refine Qo ?_ | refine Qt ?_ | refine Qe ?_)) | ((with_reducible refine hK _ ?_); clear hK) | (refine Qj rfl ?_; simp only [↓reduceIte, Bool.false_eq_true]))
        simp only [QO, Qp, Qv, upd, ↓reduceIte, Option.some.injEq, exists_eq_left']; first | refine Qd (htake _ _) (.keep (.v _)) ⟨by rw [hi], rfl⟩ | refine Qd List.take_length (.keep (.v _)) ⟨by rw [hi], rfl⟩
      · rw [if_neg hc] at ha'
        refine Qg Tryz.func98 rfl Tryz.call98 Tryz.ntmps98 (congrArg Array.toList Tryz.results98) (by simp) ?_
        repeat (first | ((first | (with_reducible (first | refine Qa fun K E hK hE => ?_ | refine Qy c ?_))); simp -implicitDefEqProofs only [Qf, Qb, Qi, OpW, QW, aop, undef, AS.ev, Qc, Qq, Qz, QM, Qm, QC, List.getD_cons_zero, List.getD_cons_succ, ↓reduceIte, Nat.reduceLT, Nat.reduceEqDiff, aBin, aLen, List.getElem?_cons_zero, List.getElem?_cons_succ, Option.map_some, Option.bind_some, List.getElem?_toArray, List.map_cons, List.map_nil, QU, Q6, Xm, goInt, decide_false, beq_self_eq_true, Bool.false_eq_true, d0, hsl, m1, hix, ha']) | (with_reducible (first | refine Qh fun K hK => ?_ | refine Qo ?_ | refine QA ?_)) | ((with_reducible refine hK _ ?_); clear hK) | (refine Qj rfl ?_; simp only [↓reduceIte]))
        simp only [QO, Qp, Qv, upd, ↓reduceIte, Option.some.injEq, exists_eq_left']; first | refine Qd (htake _ _) (.keep (.v _)) ⟨by rw [decide_eq_false (fun h => hc h.2.2.1)], rfl⟩ | refine Qd List.take_length (.keep (.v _)) ⟨by rw [decide_eq_false (fun h => hc h.2.2.1)], rfl⟩
    · have m1 : ((s.size : Int) > 40) := by omega
      refine Qg Tryz.func98 rfl Tryz.call98 Tryz.ntmps98 (congrArg Array.toList Tryz.results98) (by simp) ?_
      repeat (first | (((with_reducible refine Qa fun K E hK hE => ?_)); simp -implicitDefEqProofs only [Qf, Qb, Qi, OpW, aop, undef, AS.ev, Qc, Qq, Qz, QM, Qm, QC, List.getD_cons_zero, Bool.not_true, ↓reduceIte, Nat.reduceLT, Nat.reduceEqDiff, aBin, aLen, List.getElem?_cons_zero, List.getElem?_cons_succ, Option.map_some, Option.bind_some, List.getElem?_toArray, Q6, Xm, goInt, decide_true, beq_self_eq_true, Bool.false_eq_true, beq_false, d0, hsl, m1]) | (with_reducible (first | refine Qh fun K hK => ?_ | refine Qo ?_ | refine QA ?_)) | ((with_reducible refine hK _ ?_); clear hK) | (refine Qj rfl ?_; simp only [↓reduceIte]))
      simp only [QO, Qp, Qv, upd, ↓reduceIte, Option.some.injEq, exists_eq_left']; first | refine Qd (htake _ _) (.keep (.v _)) ⟨by rw [decide_eq_false (fun h => by have := h.2.1; omega)], rfl⟩ | refine Qd List.take_length (.keep (.v _)) ⟨by rw [decide_eq_false (fun h => by have := h.2.1; omega)], rfl⟩
end Go.Proofs.YtenheconhibonaaGreatDoor.Ab
set_option linter.unusedVariables false
set_option maxHeartbeats 4000000
namespace Go.Proofs
open Go.Shelf
def Tryz.Qj9 : Go.Shelf.Ren := ⟨fun | 171 => 58 | 243 => 100 | 246 => 138 | 283 => 159 | 284 => 160 | 285 => 161 | 286 => 162 | 129 => 173 | 317 => 172 | 318 => 174 | 319 => 175 | 320 => 176 | 337 => 183 | 338 => 184 | n => n, fun | 3 => 3 | 9 => 9 | 2 => 2 | 4 => 4 | 171 => 204 | 0 => 0 | 53 => 205 | 37 => 72 | 5 => 5 | 173 => 208 | 212 => 216 | 51 => 217 | 20 => 20 | 213 => 218 | 46 => 220 | 232 => 230 | 233 => 231 | n => n, fun | 17 => 0 | 18 => 1 | 19 => 2 | n => n⟩
theorem Tryz.laysM171 : Go.Proofs.LaysM.n171 Tryz.prog Tryz.Qj9 := {
  mixed := by kernel_rfl
  f129 := Tryz.func173.trans (congrArg some (by kernel_rfl))
  f171 := Tryz.func58.trans (congrArg some (by kernel_rfl))
  f243 := Tryz.func100.trans (congrArg some (by kernel_rfl))
  f246 := Tryz.func138.trans (congrArg some (by kernel_rfl))
  f283 := Tryz.func159.trans (congrArg some (by kernel_rfl))
  f284 := Tryz.func160.trans (congrArg some (by kernel_rfl))
  f285 := Tryz.func161.trans (congrArg some (by kernel_rfl))
  f286 := Tryz.func162.trans (congrArg some (by kernel_rfl))
  f317 := Tryz.func172.trans (congrArg some (by kernel_rfl))
  f318 := Tryz.func174.trans (congrArg some (by kernel_rfl))
  f319 := Tryz.func175.trans (congrArg some (by kernel_rfl))
  f320 := Tryz.func176.trans (congrArg some (by kernel_rfl))
  f337 := Tryz.func183.trans (congrArg some (by kernel_rfl))
  f338 := Tryz.func184.trans (congrArg some (by kernel_rfl))
  t0 := Tryz.underlying0
  a0 := Tryz.isAgg0
  z0 := Tryz.sizeOf0
  v0 := Tryz.zeroValue0
  t2 := Tryz.underlying2
  a2 := Tryz.isAgg2
  z2 := Tryz.sizeOf2
  v2 := Tryz.zeroValue2
  t3 := Tryz.underlying3
  a3 := Tryz.isAgg3
  z3 := Tryz.sizeOf3
  v3 := Tryz.zeroValue3
  t4 := Tryz.underlying4
  a4 := Tryz.isAgg4
  z4 := Tryz.sizeOf4
  v4 := Tryz.zeroValue4
  t5 := Tryz.underlying5
  a5 := Tryz.isAgg5
  z5 := Tryz.sizeOf5
  v5 := Tryz.zeroValue5
  t9 := Tryz.underlying9
  a9 := Tryz.isAgg9
  z9 := Tryz.sizeOf9
  v9 := Tryz.zeroValue9
  t20 := Tryz.underlying20
  a20 := Tryz.isAgg20
  z20 := Tryz.sizeOf20
  v20 := Tryz.zeroValue20
  t37 := Tryz.underlying72
  a37 := Tryz.isAgg72
  z37 := Tryz.sizeOf72
  v37 := Tryz.zeroValue72
  t46 := Tryz.underlying220
  a46 := Tryz.isAgg220
  z46 := Tryz.sizeOf220
  v46 := Tryz.zeroValue220
  t51 := Tryz.underlying217
  a51 := Tryz.isAgg217
  z51 := Tryz.sizeOf217
  v51 := Tryz.zeroValue217
  t53 := Tryz.underlying205
  a53 := Tryz.isAgg205
  z53 := Tryz.sizeOf205
  v53 := Tryz.zeroValue205
  t171 := Tryz.underlying204
  a171 := Tryz.isAgg204
  z171 := Tryz.sizeOf204
  v171 := Tryz.zeroValue204
  t173 := Tryz.underlying208
  a173 := Tryz.isAgg208
  z173 := Tryz.sizeOf208
  v173 := Tryz.zeroValue208
  t212 := Tryz.underlying216
  a212 := Tryz.isAgg216
  z212 := Tryz.sizeOf216
  v212 := Tryz.zeroValue216
  t213 := Tryz.underlying218
  a213 := Tryz.isAgg218
  z213 := Tryz.sizeOf218
  t232 := Tryz.underlying230
  a232 := Tryz.isAgg230
  z232 := Tryz.sizeOf230
  v232 := Tryz.zeroValue230
  t233 := Tryz.underlying231
  a233 := Tryz.isAgg231
  z233 := Tryz.sizeOf231
  v233 := Tryz.zeroValue231
  g17 := by kernel_rfl
  g18 := by kernel_rfl
  g19 := by kernel_rfl
  i0 := by kernel_rfl
  i2 := by kernel_rfl
  i3 := by kernel_rfl
  i4 := by kernel_rfl
  i5 := by kernel_rfl
  i9 := by kernel_rfl
  i20 := by kernel_rfl
  i37 := by kernel_rfl
  i46 := by kernel_rfl
  i51 := by kernel_rfl
  i53 := by kernel_rfl
  i171 := by kernel_rfl
  i173 := by kernel_rfl
  i212 := by kernel_rfl
  i232 := by kernel_rfl
  i233 := by kernel_rfl
  m17 := by kernel_rfl
  m18 := by kernel_rfl
  m19 := by kernel_rfl }
open Go.RowKit Go.Sort Go.Lib in
theorem Tryz.strconv_Itoa (n : Int) (h0 : -9223372036854775808 ≤ n) (h1 : n ≤ 9223372036854775807) (w : World) (htab : Lib.TabIs Tryz.prog w "internal/strconv.uint64pow10" .u64 Lib.pow10Tab) :
    Calls Tryz.prog 58 #[.int .i64 n] w fun e w' => e = .returned (.string ⟨(Lib.itoa n).toArray⟩) ∧ ∃ k os, w' = grow (w.drewN k) os := Any.strconv_Itoa Tryz.laysM171 n h0 h1 w htab
def Tryz.Qkc : Go.Shelf.Ren := ⟨fun | 144 => 167 | 143 => 181 | 219 => 190 | 217 => 192 | 225 => 193 | 224 => 194 | 267 => 195 | 266 => 196 | 314 => 197 | n => n, fun | 9 => 9 | 4 => 4 | 3 => 3 | 5 => 5 | 46 => 220 | 146 => 234 | 51 => 217 | n => n, fun | 1 => 4 | n => n⟩
theorem Tryz.lays144 : Go.Proofs.Lays.n144 Tryz.prog Tryz.Qkc := {
  mixed := by kernel_rfl
  f143 := Tryz.func181.trans (congrArg some (by kernel_rfl))
  f144 := Tryz.func167.trans (congrArg some (by kernel_rfl))
  f217 := Tryz.func192.trans (congrArg some (by kernel_rfl))
  f219 := Tryz.func190.trans (congrArg some (by kernel_rfl))
  f224 := Tryz.func194.trans (congrArg some (by kernel_rfl))
  f225 := Tryz.func193.trans (congrArg some (by kernel_rfl))
  f266 := Tryz.func196.trans (congrArg some (by kernel_rfl))
  f267 := Tryz.func195.trans (congrArg some (by kernel_rfl))
  f314 := Tryz.func197.trans (congrArg some (by kernel_rfl))
  t3 := Tryz.underlying3
  a3 := Tryz.isAgg3
  z3 := Tryz.sizeOf3
  v3 := Tryz.zeroValue3
  t4 := Tryz.underlying4
  a4 := Tryz.isAgg4
  z4 := Tryz.sizeOf4
  v4 := Tryz.zeroValue4
  t5 := Tryz.underlying5
  a5 := Tryz.isAgg5
  z5 := Tryz.sizeOf5
  v5 := Tryz.zeroValue5
  t9 := Tryz.underlying9
  a9 := Tryz.isAgg9
  z9 := Tryz.sizeOf9
  v9 := Tryz.zeroValue9
  t46 := Tryz.underlying220
  a46 := Tryz.isAgg220
  z46 := Tryz.sizeOf220
  v46 := Tryz.zeroValue220
  t51 := Tryz.underlying217
  a51 := Tryz.isAgg217
  z51 := Tryz.sizeOf217
  v51 := Tryz.zeroValue217
  t146 := Tryz.underlying234
  a146 := Tryz.isAgg234
  z146 := Tryz.sizeOf234
  v146 := Tryz.zeroValue234
  g1 := by kernel_rfl }
theorem Tryz.strings_Contains_one (s : ByteArray) (c : UInt8) (w : World) :
    Calls Tryz.prog 167 #[.string s, .string ⟨#[c]⟩] w fun e w' => e = .returned (.bool (decide (0 ≤ Lib.indexByte s.data.toList c))) ∧ w' = w := Any.strings_Contains_one Tryz.lays144 s c w
end Go.Proofs
set_option linter.unusedVariables false
namespace Go.Proofs.YtenheconhibonaaGreatDoor.Ab
/-- what may come next, and what then -/
inductive Alt where
  | done
  | stop
  | alt (i c : Nat) (sub more : Alt)
section
variable (P : Program) (N : Nat) (ops : Array Oper) (K : AS → Prop) (s : AS)
end
/-- behind the first part only J is known -/
theorem X2 {P : Program} {N : Nat} {x y : Code} {Q : AExit → AS → Prop} {s : AS} (J : AS → Prop) (h1 : ∀ s, J s → YE P N y Q s) (h2 : YE P N x (AExit.then J Q) s) : YE P N (.seq x y) Q s := by
  refine Qbr (h2.mono fun e s' hq => ?_)
  cases e with
  | normal => exact h1 s' hq
  | _ => exact hq
end Go.Proofs.YtenheconhibonaaGreatDoor.Ab
set_option linter.unusedSimpArgs false
set_option linter.unusedVariables false
set_option maxHeartbeats 4000000
set_option maxRecDepth 4000
namespace Go.Proofs.YtenheconhibonaaGreatDoor.Ab
open Go.Proofs
theorem QaW (s : ByteArray) : Pure Tryz.prog 55 [.v (.string s)] (.b (decide (QdR 1 s) && !resB s)) := by
  intro h
  have c := QhV 1 (.inl rfl) s
  have cr := QdM s
  cases hw : decide (QdR 1 s) with
  | false =>
    rw [hw] at c
    refine Qg Tryz.func55 rfl Tryz.call55 Tryz.ntmps55 (congrArg Array.toList Tryz.results55) (by simp) ?_
    repeat (first | ((first | (with_reducible (first | refine Qa fun K E hK hE => ?_ | refine Qy c ?_))); simp -implicitDefEqProofs only [Qf, Qb, Qi, OpW, QW, aop, undef, AS.ev, Qc, Qq, Qz, Qm, QC, List.getD_cons_zero, ↓reduceIte, Nat.reduceLT, Nat.reduceEqDiff, List.getElem?_cons_zero, List.getElem?_cons_succ, Option.bind_some, List.getElem?_toArray, List.map_cons, List.map_nil, Bool.false_eq_true, beq_true]) | (with_reducible refine Qo ?_) | ((with_reducible refine hK _ ?_); clear hK))
    simp only [QO, Qp, Qv, upd, ↓reduceIte, Option.some.injEq, exists_eq_left']; first | refine Qd (htake _ _) (.keep (.v _)) ⟨rfl, rfl⟩ | refine Qd List.take_length (.keep (.v _)) ⟨rfl, rfl⟩
  | true =>
    rw [hw] at c
    refine Qg Tryz.func55 rfl Tryz.call55 Tryz.ntmps55 (congrArg Array.toList Tryz.results55) (by simp) ?_
    repeat (first | ((first | (with_reducible (first | refine Qa fun K E hK hE => ?_ | refine Qy c ?_ | refine Qy cr ?_))); simp -implicitDefEqProofs only [Qf, Qb, Qi, OpW, QW, aop, undef, AS.ev, Qc, Qq, Qz, Qm, QC, List.getD_cons_zero, ↓reduceIte, Nat.reduceLT, Nat.reduceEqDiff, List.getElem?_cons_zero, List.getElem?_cons_succ, Option.map_some, Option.bind_some, List.getElem?_toArray, List.map_cons, List.map_nil, XM, beq_self_eq_true]) | (with_reducible refine Qo ?_) | ((with_reducible refine hK _ ?_); clear hK))
    simp only [QO, Qp, Qv, upd, ↓reduceIte, Option.some.injEq, exists_eq_left']; first | refine Qd (htake _ _) (.keep (.v _)) ⟨rfl, rfl⟩ | refine Qd List.take_length (.keep (.v _)) ⟨rfl, rfl⟩
def QgC (s : ByteArray) : Prop := 1 ≤ s.size ∧ s.size ≤ 40 ∧ Fol s
instance (s : ByteArray) : Decidable (QgC s) := by unfold QgC; infer_instance
end Go.Proofs.YtenheconhibonaaGreatDoor.Ab
set_option linter.unusedSimpArgs false
set_option linter.unusedVariables false
set_option maxHeartbeats 4000000
set_option maxRecDepth 4000
namespace Go.Proofs.YtenheconhibonaaGreatDoor.Ab
open Go.Proofs Go.RowKit
def opB (s : ByteArray) : Bool := (s.toList == ({ data := #[43] } : ByteArray).toList) || (s.toList == ({ data := #[45] } : ByteArray).toList) || (s.toList == ({ data := #[42] } : ByteArray).toList) || (s.toList == ({ data := #[47] } : ByteArray).toList) || (s.toList == ({ data := #[37] } : ByteArray).toList)
theorem QjJ : ∀ n : Fin 256, decide (0 ≤ Lib.indexByte [43, 45, 42, 47, 37] (UInt8.ofNat n.val)) = (([UInt8.ofNat n.val] == [43]) || ([UInt8.ofNat n.val] == [45]) || ([UInt8.ofNat n.val] == [42]) || ([UInt8.ofNat n.val] == [47]) || ([UInt8.ofNat n.val] == [37])) := by decide +kernel
theorem QjP (c : UInt8) : decide (0 ≤ Lib.indexByte [43, 45, 42, 47, 37] c) = opB { data := #[c] } := by
  have := QjJ ⟨c.toNat, c.toNat_lt⟩
  simp only [UInt8.ofNat_toNat] at this
  rw [this, opB]
  simp only [Lib.toList_data]
theorem Qel (c : UInt8) : Pure Tryz.prog 167 [.v (.string { data := #[43, 45, 42, 47, 37] }), .v (.string { data := #[c] })] (.b (opB { data := #[c] })) := by
  rw [← QjP]
  exact Qi2 (vs := [.string { data := #[43, 45, 42, 47, 37] }, .string { data := #[c] }]) Tryz.call167 fun w => (Tryz.strings_Contains_one _ c w).mono (by rintro e w' ⟨rfl, rfl⟩; exact ⟨_, rfl, Go.RowKit.Below.refl _ _, fun _ => .v _⟩)
theorem one_byte {s : ByteArray} (h : s.size = 1) : ∃ c, s = { data := #[c] } := by
  obtain ⟨⟨l⟩⟩ := s
  match l, h with
  | [c], _ => exact ⟨c, rfl⟩
theorem QdP {s : ByteArray} (h : s.size ≠ 1) : opB s = false := by
  have : ∀ c : UInt8, (s.toList == [c]) = false := fun c => by
    rw [Lib.toList_data, beq_eq_false_iff_ne]
    intro e
    exact h (by rw [Lib.size_eq, e]; rfl)
  have t : ∀ c : UInt8, ({ data := #[c] } : ByteArray).toList = [c] := fun c => Lib.toList_data _
  simp only [opB, t, this, Bool.or_false]
theorem QdU (s : ByteArray) : Pure Tryz.prog 145 [.v (.string s)] (.b (opB s)) := by
  intro h
  have hsl := fun b => Qaz Tryz.prog 9 3 (by kernel_rfl) b
  by_cases n1 : s.size = 1
  · have m1 : ((s.size : Int) == 1) = true := by simp [n1]
    obtain ⟨c, rfl⟩ := one_byte n1
    have cc := Qel c
    refine Qg Tryz.func145 rfl Tryz.call145 Tryz.ntmps145 (congrArg Array.toList Tryz.results145) (by simp) ?_
    repeat (first | ((first | (with_reducible (first | refine Qa fun K E hK hE => ?_ | refine Qy cc ?_))); simp -implicitDefEqProofs only [Qf, Qb, Qi, OpW, QW, aop, undef, AS.ev, Qc, Qq, Qz, QM, Qm, QC, List.getD_cons_zero, ↓reduceIte, Nat.reduceLT, Nat.reduceEqDiff, aBin, aLen, List.getElem?_cons_zero, List.getElem?_cons_succ, Option.map_some, Option.bind_some, List.getElem?_toArray, List.map_cons, List.map_nil, QU, goInt, beq_self_eq_true, hsl, m1]) | (with_reducible refine Qo ?_) | ((with_reducible refine hK _ ?_); clear hK))
    simp only [QO, Qp, Qv, upd, ↓reduceIte, Option.some.injEq, exists_eq_left']; first | refine Qd (htake _ _) (.keep (.v _)) ⟨rfl, rfl⟩ | refine Qd List.take_length (.keep (.v _)) ⟨rfl, rfl⟩
  · have m1 : ((s.size : Int) == 1) = false := by simp; omega
    refine Qg Tryz.func145 rfl Tryz.call145 Tryz.ntmps145 (congrArg Array.toList Tryz.results145) (by simp) ?_
    repeat (first | (((with_reducible refine Qa fun K E hK hE => ?_)); simp -implicitDefEqProofs only [Qf, Qb, Qi, OpW, aop, undef, AS.ev, Qc, Qq, Qz, Qm, QC, List.getD_cons_zero, ↓reduceIte, Nat.reduceLT, Nat.reduceEqDiff, aBin, aLen, List.getElem?_cons_zero, List.getElem?_cons_succ, Option.map_some, Option.bind_some, List.getElem?_toArray, QU, goInt, Bool.false_eq_true, beq_true, hsl, m1]) | (with_reducible refine Qo ?_) | ((with_reducible refine hK _ ?_); clear hK))
    simp only [QO, Qp, Qv, upd, ↓reduceIte, Option.some.injEq, exists_eq_left']; first | refine Qd (htake _ _) (.keep (.v _)) ⟨by rw [QdP n1], rfl⟩ | refine Qd List.take_length (.keep (.v _)) ⟨by rw [QdP n1], rfl⟩
def vOf (t : ByteArray) : ByteArray := ({ data := #[86] } : ByteArray) ++ t
theorem QiM (n : Int) (h0 : 0 ≤ n) (h1 : n ≤ 1048576) (t : ByteArray) (ht : t.size ≤ 1000) (h : AH) (H : XG Tryz.prog 58 [.i n] h fun o h' => o = .ret (.v (.string t)) ∧ h' = h) : XG Tryz.prog 127 [.i n] h fun o h' => o = .ret (.v (.string (vOf t))) ∧ h' = h := by
  have m0 : ¬ n < 0 := by omega
  have m1 : ¬ n > 1048576 := by omega
  have hsa := fun xo yo => ZZ Tryz.prog 9 xo yo ({ data := #[86] } : ByteArray) t (by show 1 + t.size ≤ _; omega)
  refine Qg Tryz.func127 rfl Tryz.call127 Tryz.ntmps127 (congrArg Array.toList Tryz.results127) (by simp) ?_
  repeat (first | ((first | (with_reducible (first | refine Qa fun K E hK hE => ?_ | refine FunW.ret (FunW.call H) ?_))); simp -implicitDefEqProofs only [Qf, Qb, Qi, OpW, QW, aop, undef, AS.ev, Qc, Qq, QM, Qm, QC, List.getD_cons_zero, ↓reduceIte, Nat.reduceLT, Nat.reduceEqDiff, aBin, List.getElem?_cons_zero, List.getElem?_cons_succ, Option.map_some, Option.bind_some, List.getElem?_toArray, List.map_cons, List.map_nil, QY, Q6, decide_false, beq_self_eq_true, Bool.false_eq_true, m0, m1, hsa]) | (with_reducible (first | refine Qh fun K hK => ?_ | refine Qo ?_ | refine Qt ?_ | refine Qe ?_)) | ((with_reducible refine hK _ ?_); clear hK) | (refine Qj rfl ?_; simp only [↓reduceIte, Bool.false_eq_true]))
  simp only [QO, Qp, Qv, upd, ↓reduceIte, Option.some.injEq, exists_eq_left']; first | refine Qd (htake _ _) (.keep (.v _)) ⟨rfl, rfl⟩ | refine Qd List.take_length (.keep (.v _)) ⟨rfl, rfl⟩
end Go.Proofs.YtenheconhibonaaGreatDoor.Ab
set_option linter.unusedVariables false
namespace Go.Proofs.YtenheconhibonaaGreatDoor.Ab
open Go.ChangeShapes Go.WideShapes Go.ChangeAt Go.RowKit
/-- nothing is owned -/
def base0 (W : World) : Cx := ⟨fun _ => none, [], W⟩
theorem Qg8 {W : World} {B o : Nat} (h : B < W.heap.size) : (base0 W).prot B o := ⟨h, fun id b hb => by simp [base0] at hb⟩
theorem Qaj {H : Type} {enc : TypeId × Value → H} {P : Program} (hl : laidOutB P = true) {W W' : World} (hb : Go.RowKit.Below W.heap.size W W') {sp : Nat → Bool} :
    ∀ (ts : List TypeId) (vs : List Value) (ds : List (DataW H)) (ps : List MemPlace), (∀ t ∈ ts, P.readableRec t = true ∧ t < P.types.size) → DataW.TrodAll enc P W 0 (fun _ => true) true ts vs ds ps →
      (∀ x ∈ ps, x.block < W.heap.size ∧ sp x.block = true) → DataW.TrodAll enc P W' 0 sp true ts vs ds ps
  | [], vs, ds, ps, _, h, _ => by
    obtain ⟨rfl, rfl, rfl⟩ := trodAll_nil h
    exact trodAll_mk0
  | t :: ts, vs, ds, ps, hp, h, hlt => by
    obtain ⟨v, vs', d, ds', p, q, rfl, rfl, rfl, h1, h2⟩ := trodAll_cons h
    obtain ⟨h3, h4⟩ := hp t (by simp)
    exact trodAll_cons_mk (WideElems.Trod_stays hl h3 h4 h1 (fun x hx => hb.same (hlt x (by simp [hx])).1) (fun x hx => (hlt x (by simp [hx])).2))
      (Qaj hl hb ts vs' ds' q (fun t ht => hp t (by simp [ht])) h2 (fun x hx => hlt x (by simp [hx])))
theorem QbX {H : Type} {enc : TypeId × Value → H} {P : Program} {W : World} {base : Nat} {sp : Nat → Bool} {held : Bool} :
    ∀ {ts : List TypeId} {vs : List Value} {ds : List (DataW H)} {ps : List MemPlace} {ts' : List TypeId} {vs' : List Value} {ds' : List (DataW H)} {ps' : List MemPlace},
      DataW.TrodAll enc P W base sp held ts vs ds ps → DataW.TrodAll enc P W base sp held ts' vs' ds' ps' → DataW.TrodAll enc P W base sp held (ts ++ ts') (vs ++ vs') (ds ++ ds') (ps ++ ps')
  | [], _, _, _, _, _, _, _, h, h' => by
    obtain ⟨rfl, rfl, rfl⟩ := trodAll_nil h
    exact h'
  | t :: ts, _, _, _, _, _, _, _, h, h' => by
    obtain ⟨v, vs', d, ds', p, q, rfl, rfl, rfl, h1, h2⟩ := trodAll_cons h
    have := trodAll_cons_mk h1 (QbX h2 h')
    simpa [List.append_assoc] using this
theorem Qhd {H : Type} {enc : TypeId × Value → H} {P : Program} {fn : Func} {s : ChangeSpec} {apart fresh handsOn again : Bool} {W W' : World} {args : Array Value} {ds gs : List (DataW H)} {before : List MemPlace} {tb : TypeId}
    (hl : laidOutB P = true) (hvars : s.vars = []) (hr : fn.resultTypes = #[tb]) (hb : P.underlying tb = some .bool) (hp : ∀ t ∈ fn.params.toList, P.readableRec t = true ∧ t < P.types.size)
    (hW : DataW.Whole enc P fn.params.toList s.vars apart W args.toList ds gs before) (hs : s.fn H (ds ++ gs) = { results := [.lit (.bool true)], args := ds }) (hbel : Go.RowKit.Below W.heap.size W W') :
    s.post enc P fn apart fresh handsOn again W args (.bool true) W' := by
  have hlt : ∀ x ∈ before, x.block < W.heap.size := fun x hx => by simpa using hW.lt x hx
  have hW0 := hW
  obtain ⟨p, q, hA, hV, rfl, hfz, hnd⟩ := hW
  rw [hvars] at hV
  have hV0 := hV
  obtain ⟨rfl, rfl⟩ := trodVars_none hV
  simp only [List.append_nil] at hlt hfz hnd hW0 hs
  have hres : ∀ (b : Nat) (sp : Nat → Bool) (hd : Bool), DataW.TrodAll enc P W' b sp hd fn.resultTypes.toList ((Value.bool true).resultList fn.resultTypes.size) [.lit (.bool true)] [] := fun b sp hd => by
    rw [hr]
    exact trodAll_mk1 (shut_bool hb true)
  have hvs : ∀ sp : Nat → Bool, DataW.TrodVars enc P W' sp s.vars [] [] := fun sp => by rw [hvars]; rfl
  refine ⟨ds, [], p, [], p, [], by simpa using hW0, ?_, ?_, ?_, ?_, fun _ => ⟨?_, ?_⟩⟩
  · rw [List.append_nil, hs]; exact hres _ _ _
  · rw [List.append_nil, hs]
    exact Qaj hl hbel _ _ _ _ hp hA fun x hx => ⟨hlt x hx, by simpa using hlt x hx⟩
  · rw [List.append_nil, hs]; exact hvs _
  · exact hbel.frame _
  · intro j t r hj hv
    rw [hr] at hj hv
    match j, hj, hv with
    | 0, hj, hv =>
      simp only [List.getElem?_toArray, List.getElem?_cons_zero, Option.some.injEq] at hj
      have hv' : r = .bool true := by
        have : (some (Value.bool true)) = some r := hv
        cases this; rfl
      subst hj; subst hv'
      exact okWide_bool_mk hb true
    | j + 1, hj, hv => simp at hj
  · have hA' := Qaj (sp := fun _ => true) hl hbel _ _ _ _ hp hA fun x hx => ⟨hlt x hx, rfl⟩
    refine ⟨_, [], [] ++ p, ⟨[] ++ p, [], QbX (hres 0 _ true) hA', hvs _, by simp, ?_, ?_⟩, ?_⟩
    · intro b off hm
      have hm' : MemPlace.cell b off ∈ p := by simpa using hm
      exact (hbel.frozen (p := ⟨b, off, none⟩) (hlt _ hm')).trans (hfz b off hm')
    · intro ha
      simpa using hnd ha
    · intro x hx _
      simpa using hx
theorem Qfk {P : Program} {w : World} {r : Reach} {b : Nat} {t : TypeId} {fs : Array Field} {v : Value} (ht : P.underlying t = some (.struct fs)) (hv : Value.okWide P w r b t v) : ∃ cs, v = .agg cs := by
  simp only [Value.okWide, ht] at hv
  obtain ⟨cs, rfl, _⟩ := hv
  exact ⟨cs, rfl⟩
/-- a reading's cells are an abstract value's -/
def Reads (W : World) (a : AV) (cs : List Value) : Prop := cs.length = a.cells.length ∧ ∀ (j : Nat) x u, a.cells[j]? = some x → cs[j]? = some u → Rel (base0 W) x u ∧ u.oneCell' = true
theorem QeU {w : World} {a : Addr} {u : Value} (h : w.cell? a = some u) : a.block < w.heap.size ∧ a.spot = none := by
  unfold World.cell? at h
  cases hb : w.heap[a.block]? with
  | none => simp [hb] at h
  | some o =>
    rw [hb] at h
    refine ⟨(Array.getElem?_eq_some_iff.1 hb).1, ?_⟩
    cases o with
    | cells c _ _ =>
      simp only at h
      split at h
      · cases h
      · rename_i hs
        cases hsp : a.spot with
        | none => rfl
        | some q => rw [hsp] at hs; simp at hs
    | _ => cases h
theorem Zp {H : Type} {enc : TypeId × Value → H} {P : Program} {W : World} {t e : TypeId} {s fuel : Nat} {cs : List Value} {y : DataW H × List MemPlace} {X : Type} {val : X → AV} {Good : X → Prop}
    (ht : P.underlying t = some (.slice e)) (hs : P.cellsOf e = s) (hpos : 0 < s) (hval : ∀ x, (val x).cells.length = s)
    (rd : ∀ n cs y, n < fuel → DataW.trod enc P W 0 (fun _ => true) true n e cs = some y → ∃ x : X, Good x ∧ Reads W (val x) cs)
    (h : DataW.trod enc P W 0 (fun _ => true) true fuel t cs = some y) : ∃ (xs : List X) (u : Value), (∀ x ∈ xs, Good x) ∧ cs = [u] ∧ u.oneCell' = true ∧ Rel (base0 W) (.sl s (xs.map val) none) u := by
  rcases DataW.trod_slice ht h with ⟨rfl, _⟩ | ⟨a, len, cap, elems, rest, n, rfl, rfl, _, _, hlc, hcm, hlen, hel, hsp, _⟩
  · exact ⟨[], _, (by simp), rfl, rfl, .slnil s none fun b hb => by cases hb⟩
  · have each : ∀ i, i < len → ∃ x : X, Good x ∧ ∃ cs, W.cells? 0 (a.add (i * s)) s = some cs ∧ Reads W (val x) cs := by
      intro i hi
      have h1 := hel i hi
      rw [List.getElem?_eq_getElem (by omega), hs, Option.bind_eq_some_iff] at h1
      obtain ⟨cs, h2, h3⟩ := h1
      obtain ⟨x, hx1, hx2⟩ := rd n cs _ (Nat.lt_succ_self n) h3
      exact ⟨x, hx1, cs, h2, hx2⟩
    obtain ⟨xs, hxl, hxs⟩ : ∃ xs : List X, xs.length = len ∧ ∀ i (hi : i < xs.length), Good xs[i] ∧ ∃ cs, W.cells? 0 (a.add (i * s)) s = some cs ∧ Reads W (val xs[i]) cs := by
      have : ∀ m, m ≤ len → ∃ xs : List X, xs.length = m ∧ ∀ i (hi : i < xs.length), Good xs[i] ∧ ∃ cs, W.cells? 0 (a.add (i * s)) s = some cs ∧ Reads W (val xs[i]) cs := by
        intro m
        induction m with
        | zero => exact fun _ => ⟨[], rfl, fun i hi => by simp at hi⟩
        | succ m ih =>
          intro hm
          obtain ⟨xs, hl, hx⟩ := ih (by omega)
          obtain ⟨x, hg, hr⟩ := each m (by omega)
          refine ⟨xs ++ [x], by simp [hl], fun i hi => ?_⟩
          by_cases hi' : i < xs.length
          · rw [List.getElem_append_left hi']; exact hx i hi'
          · have e : i = m := by simp at hi; omega
            subst e
            have hxe : (xs ++ [x])[i] = x := by simp [← hl]
            rw [hxe]
            exact ⟨hg, hr⟩
      exact this len (Nat.le_refl _)
    have hgood : ∀ x ∈ xs, Good x := fun x hx => by
      obtain ⟨i, hi, rfl⟩ := List.getElem_of_mem hx
      exact (hxs i hi).1
    by_cases hcap : cap = 0
    · have hl0 : len = 0 := by omega
      subst hcap; subst hl0
      have : xs = [] := List.length_eq_zero_iff.1 hxl
      subst this
      exact ⟨[], _, (by simp), rfl, rfl, .slzero s none a fun b hb => by cases hb⟩
    · have hspot : a.spot = none := by
        have key : W.cells? 0 (a.add (0 * s)) s ≠ none → a.spot = none := by
          intro hk
          cases hc : W.cells? 0 (a.add (0 * s)) s with
          | none => exact absurd hc hk
          | some cs =>
            obtain ⟨_, hl, hcell⟩ := World.cells?_some hc
            have := hcell 0 hpos
            rw [List.getElem?_eq_getElem (by omega)] at this
            have := (QeU this).2
            simpa [Addr.add] using this
        by_cases hl : 0 < len
        · refine key fun hn => ?_
          have := hel 0 hl
          rw [hs, hn, List.getElem?_eq_getElem (by omega)] at this
          simp at this
        · obtain ⟨hrl, hr⟩ := hsp rfl
          refine key fun hn => ?_
          have := hr 0 (by omega)
          rw [show len + 0 = 0 by omega, hs, hn, List.getElem?_eq_getElem (by omega)] at this
          simp at this
      have ha : a = ⟨a.block, a.off, none⟩ := by cases a; simp only at hspot; subst hspot; rfl
      have hvs : ∀ x ∈ xs.map val, x.cells.length = s := fun x hx => by
        obtain ⟨z, _, rfl⟩ := List.mem_map.1 hx
        exact hval z
      have hflat : ∀ (j : Nat) (v : AV), (flat (xs.map val))[j]? = some v → ∃ (i : Nat) (hi : i < xs.length) (k : Nat), k < s ∧ j = i * s + k ∧ (val xs[i]).cells[k]? = some v := by
        intro j v hj
        have hlt := QK hj
        rw [flat_length hvs, List.length_map] at hlt
        have hi : j / s < xs.length := by rw [Nat.div_lt_iff_lt_mul hpos]; exact hlt
        have hdm := Nat.div_add_mod j s
        have hml := Nat.mod_lt j hpos
        refine ⟨j / s, hi, j % s, hml, by rw [Nat.mul_comm]; exact hdm.symm, ?_⟩
        obtain ⟨v', hv'⟩ : ∃ v', (val (xs[j / s]'hi)).cells[j % s]? = some v' := ⟨_, List.getElem?_eq_getElem (by rw [hval]; exact hml)⟩
        have := flat_get hvs (k := j / s) (x := val (xs[j / s]'hi)) (by rw [List.getElem?_map, List.getElem?_eq_getElem hi]; rfl) hv'
        rw [show j / s * s + j % s = j by rw [Nat.mul_comm]; exact hdm, hj] at this
        rw [hv', this]
      have hcell : ∀ (j : Nat) (v : AV), (flat (xs.map val))[j]? = some v → ∃ u, W.cell? ⟨a.block, a.off + j, none⟩ = some u ∧ Rel (base0 W) v u ∧ u.oneCell' = true := by
        intro j v hj
        obtain ⟨i, hi, k, hk, rfl, hv⟩ := hflat j v hj
        obtain ⟨_, cs, hcs, hrd⟩ := hxs i hi
        obtain ⟨_, hl, hc⟩ := World.cells?_some hcs
        obtain ⟨u, hu⟩ : ∃ u, cs[k]? = some u := ⟨_, List.getElem?_eq_getElem (by omega)⟩
        have h1 := hc k hk
        rw [hu] at h1
        obtain ⟨h2, h3⟩ := hrd.2 k v u hv hu
        refine ⟨u, ?_, h2, h3⟩
        have e : (a.add (i * s)).add k = ⟨a.block, a.off + (i * s + k), none⟩ := by
          rw [ha, addr_add, addr_add, Nat.add_assoc]
        rw [← e]
        exact h1
      refine ⟨xs, _, hgood, rfl, rfl, ?_⟩
      have hsl := Rel.sl (c := base0 W) s (xs.map val) none a.block a.off cap (fun j => (W.cell? ⟨a.block, a.off + j, none⟩).getD undef) hvs (by rw [List.length_map]; omega) hcm
        (fun j v hj => by
          obtain ⟨u, h1, h2, h3⟩ := hcell j v hj
          rw [h1]
          exact ⟨⟨h1, Qg8 (QeU h1).1⟩, h3⟩)
        (fun j v hj => by
          obtain ⟨u, h1, h2, h3⟩ := hcell j v hj
          rw [h1]
          exact h2)
        (fun b hb => by cases hb)
      rw [List.length_map, hxl, ← ha] at hsl
      exact hsl
theorem QiJ (c : Cx) : RelL c [] #[] := ⟨rfl, fun j a u h => by simp at h⟩
theorem Qfo {c : Cx} {a : AV} {asx : List AV} {u : Value} {us : List Value} (h : Rel c a u) (hs : RelL c asx us.toArray) : RelL c (a :: asx) (u :: us).toArray := by
  refine ⟨by have := hs.1; simp at this ⊢; exact this, fun j x v hx hv => ?_⟩
  cases j with
  | zero => simp at hx hv; subst hx; subst hv; exact h
  | succ j => exact hs.2 j x v (by simpa using hx) (by simpa using hv)
theorem QhB {W : World} {l : List AV} {cs : Array Value} (h : Reads W (.agg l) cs.toList) : Rel (base0 W) (.agg l) (.agg cs) :=
  .agg l cs (by have := h.1; simpa [AV.cells] using this) fun j a u ha hu => (h.2 j a u ha (by simpa using hu)).1
/-- an argument that is a struct -/
theorem Qjd {H : Type} {enc : TypeId × Value → H} {P : Program} {W : World} {r : Reach} {b0 : Nat} {t : TypeId} {fs : Array Field} {v : Value} {d : DataW H} {ps : List MemPlace} {X : Type} {val : X → AV} {Good : X → Prop}
    (ht : P.underlying t = some (.struct fs)) (hv : Value.okWide P W r b0 t v) (hd : DataW.Trod enc P W 0 (fun _ => true) true t v d ps) (hval : ∀ x, ∃ l, val x = .agg l)
    (rd : ∀ fuel cs y, DataW.trod enc P W 0 (fun _ => true) true fuel t cs = some y → ∃ x : X, Good x ∧ Reads W (val x) cs) : ∃ x : X, Good x ∧ Rel (base0 W) (val x) v := by
  obtain ⟨cs, rfl⟩ := Qfk ht hv
  obtain ⟨fuel, hf⟩ := hd
  obtain ⟨x, hg, hr⟩ := rd fuel _ _ hf
  obtain ⟨l, hl⟩ := hval x
  refine ⟨x, hg, ?_⟩
  rw [hl] at hr ⊢
  exact QhB hr
theorem Xq {α : Type} {n : Nat} : ∀ {l : List α}, l.length = n + 1 → ∃ a l', l = a :: l' ∧ l'.length = n
  | a :: l, h => ⟨a, l, rfl, by simpa using h⟩
theorem len_nil {α : Type} {l : List α} (h : l.length = 0) : l = [] := List.length_eq_zero_iff.1 h
end Go.Proofs.YtenheconhibonaaGreatDoor.Ab
set_option linter.unusedVariables false
namespace Go.Proofs.YtenheconhibonaaGreatDoor.Ab
open Go.RowKit
/-- a variable of the program holds these cells -/
def HasG (h : AH) (g : Nat) (cs : Array Value) : Prop := ∃ (i : Nat) (ty : TypeId) (fr : Nat × Nat), h[i]? = some (.glob g cs ty fr)
theorem HasG.app {h : AH} {g : Nat} {cs : Array Value} (H : HasG h g cs) (l : AH) : HasG (h ++ l) g cs := let ⟨i, ty, fr, e⟩ := H; ⟨i, ty, fr, hext e l⟩
theorem HasG.world {c : Cx} (hst : St c) {g : Nat} {cs : Array Value} (H : HasG c.h g cs) : ∃ ty fr, c.w.heap[g]? = some (.cells cs ty fr) :=
  let ⟨i, ty, fr, e⟩ := H; ⟨ty, fr, (hst.blocks i _ e).2⟩
theorem HasG.var {P : Program} {c : Cx} (hst : St c) {g : Nat} {cs : Array Value} (H : HasG c.h g cs) {nm : String} (hn : P.globalNamed nm = some g) : c.w.var? P nm = some cs := by
  obtain ⟨ty, fr, e⟩ := H.world hst
  simp only [World.var?, hn, Option.bind_some, e]
theorem HasG.kin {c c' : Cx} (hev : Ev c c') {g : Nat} {cs : Array Value} (H : HasG c.h g cs) : HasG c'.h g cs := by
  obtain ⟨i, ty, fr, e⟩ := H
  obtain ⟨b', hb, hk⟩ := hev.kin i _ e
  simp only [Kin] at hk
  obtain ⟨rfl, _⟩ := hk
  exact ⟨i, ty, fr, hb⟩
/-- the base: nothing is owned but the variables named -/
structure GV where
  g : Nat
  cs : Array Value
  ty : TypeId
  fr : Nat × Nat
def GV.blk (x : GV) : AB := .glob x.g x.cs x.ty x.fr
def QcQ (W : World) (gs : List GV) : Cx := ⟨fun id => (gs[id]?).map (·.g), gs.map GV.blk, W⟩
theorem QaC {W : World} {gs : List GV} {id : Nat} {b : AB} (h : (QcQ W gs).h[id]? = some b) : ∃ x, gs[id]? = some x ∧ b = x.blk ∧ (QcQ W gs).ρ id = some x.g := by
  simp only [QcQ, List.getElem?_map, Option.map_eq_some_iff] at h ⊢
  obtain ⟨x, hx, rfl⟩ := h
  exact ⟨x, hx, rfl, x, hx, rfl⟩
theorem Qhp {l : List Nat} (hn : l.Nodup) {i j a : Nat} (hi : l[i]? = some a) (hj : l[j]? = some a) : i = j := by
  have hp := List.pairwise_iff_getElem.1 hn
  obtain ⟨li, ei⟩ := List.getElem?_eq_some_iff.1 hi
  obtain ⟨lj, ej⟩ := List.getElem?_eq_some_iff.1 hj
  rcases Nat.lt_trichotomy i j with h | h | h
  · exact absurd (ei.trans ej.symm) (hp i j li lj h)
  · exact h
  · exact absurd (ej.trans ei.symm) (hp j i lj li h)
theorem QiZ {W : World} {gs : List GV} (hw : ∀ x ∈ gs, W.heap[x.g]? = some (.cells x.cs x.ty x.fr)) (hn : (gs.map (·.g)).Nodup) : St (QcQ W gs) := by
  refine ⟨fun id b h => ?_, fun i j a b B hi hj _ _ hρi hρj => ?_⟩
  · obtain ⟨x, hx, rfl, hρ⟩ := QaC h
    exact ⟨hρ, hw x (List.mem_of_getElem? hx)⟩
  · obtain ⟨x, hx, rfl, hρ⟩ := QaC hi
    obtain ⟨y, hy, rfl, hρ'⟩ := QaC hj
    have e : x.g = y.g := (Option.some.inj (hρ.symm.trans hρi)).trans (Option.some.inj (hρ'.symm.trans hρj)).symm
    have e1 : (gs.map (·.g))[i]? = some x.g := by rw [List.getElem?_map, hx]; rfl
    have e2 : (gs.map (·.g))[j]? = some x.g := by rw [List.getElem?_map, hy, e]; rfl
    exact Qhp hn e1 e2
theorem Qe5 {W : World} {gs : List GV} {c : Cx} (hw : ∀ x ∈ gs, W.heap[x.g]? = some (.cells x.cs x.ty x.fr)) (hst : St c) (h : Ev (QcQ W gs) c) : Go.RowKit.Below W.heap.size W c.w := by
  refine ⟨h.os, h.tape, h.output, h.size, fun k hk => ?_⟩
  by_cases ho : (QcQ W gs).owns k
  · obtain ⟨id, b, hb, _, hρ⟩ := ho
    obtain ⟨x, hx, rfl, hρ'⟩ := QaC hb
    obtain rfl := Option.some.inj (hρ.symm.trans hρ')
    obtain ⟨b', hb', hk'⟩ := h.kin id _ hb
    simp only [GV.blk, Kin] at hk'
    obtain ⟨rfl, _⟩ := hk'
    rw [(hst.blocks id _ hb').2, hw x (List.mem_of_getElem? hx)]
  · exact h.frame k hk ho
theorem Qig {W : World} {gs : List GV} {a : AV} {u : Value} (h : Rel (base0 W) a u) : Rel (QcQ W gs) a u := by
  have hp : ∀ {B o : Nat} {u : Value}, (base0 W).cellP B o u → (QcQ W gs).cellP B o u := fun {B o u} h => ⟨h.1, h.2.1, fun id b hb hl hρ => .inr (by
    obtain ⟨x, _, rfl, _⟩ := QaC hb
    exact ⟨_, _, _, _, rfl⟩)⟩
  induction h with
  | v x => exact .v x
  | junk x => exact .junk x
  | agg l cs hl h ih => exact .agg l cs hl ih
  | tup l cs hl h ih => exact .tup l cs hl ih
  | slnil s own ht => exact .slnil s own fun b hb => absurd (ht b hb).1 (by simp [base0])
  | slzero s own ba ht => exact .slzero s own ba fun b hb => absurd (ht b hb).1 (by simp [base0])
  | sl s xs own B o cap f hs hcap hmax hc hr ht ih => exact .sl s xs own B o cap f hs hcap hmax (fun j a hj => ⟨hp (hc j a hj).1, (hc j a hj).2⟩) ih fun b hb => absurd (ht b hb).1.1 (by simp [base0])
  | pin s xs k off B o f hs hc hr ih => exact .pin s xs k off B o f hs (fun j a hj => ⟨hp (hc j a hj).1, (hc j a hj).2⟩) ih
  | ptr id k off x hid => exact absurd hid (by simp [base0])
  | arr id lo len x hid => exact absurd hid (by simp [base0])
  | row id lo len cap x hid => exact absurd hid (by simp [base0])
  | mp id x hid => exact absurd hid (by simp [base0])
  | fn f first cap vs ws h1 h2 hv hw ihv ihw => exact .fn f first cap vs ws h1 h2 ihv ihw
  | ifc t a u h ih => exact .ifc t a u ih
  | spt s xs own p n k h ih => exact .spt s xs own p n k ih
theorem Qhi {W : World} {gs : List GV} {asx : List AV} {args : Array Value} (h : RelL (base0 W) asx args) : RelL (QcQ W gs) asx args := ⟨h.1, fun j a u e1 e2 => Qig (h.2 j a u e1 e2)⟩
theorem Qg3 {P : Program} {f : FuncId} {asx : List AV} {W : World} {args : Array Value} {gs : List GV} (hw : ∀ x ∈ gs, W.heap[x.g]? = some (.cells x.cs x.ty x.fr)) (hn : (gs.map (·.g)).Nodup)
    (hc : XG P f asx (gs.map GV.blk) fun o h' => o = .ret (.v (.bool true)) ∧ h' = gs.map GV.blk) (hr : RelL (QcQ W gs) asx args) :
    Calls P f args W fun e W' => e = .returned (.bool true) ∧ Go.RowKit.Below W.heap.size W W' := by
  refine callsIn_wide.1 ((hc.2 Fence.wide 0 (QcQ W gs) args WF.wide (QiZ hw hn) rfl hr).mono ?_)
  rintro e w' ⟨o, c', ⟨rfl, hh⟩, hev, hst, rfl, hend⟩
  obtain ⟨x, rfl, hx⟩ := hend
  cases hx
  exact ⟨rfl, Qe5 hw hst hev⟩
theorem QiI {P : Program} {W : World} {l : List (String × DataW Unit)} (h : laidMetH P l W) {x : String × DataW Unit} (hf : ((l.filter fun x => x.2.handleName?.isNone).filter fun y => y.1 == x.1) = [x]) : laidMet P [x] W := by
  have := (laidMetH_iff.1 h).1.filter fun y => y.1 == x.1
  rwa [hf] at this
theorem Qiw {P : Program} {W : World} {nm : String} {g : Nat} {cs : Array Value} (hn : P.globalNamed nm = some g) (h : W.var? P nm = some cs) : ∃ ty fr, W.heap[g]? = some (.cells cs ty fr) := by
  simp only [World.var?, hn, Option.bind_some] at h
  split at h
  · rename_i cs' ty fr e
    cases h
    exact ⟨ty, fr, e⟩
  · cases h
theorem Qjc {P : Program} {W : World} {nm : String} {k : IntKind} {zs : List Int} {g : Nat} {t e : TypeId} {n : Nat}
    (hg : P.globalNamed nm = some g) (hty : (P.globals[g]?).map (·.type) = some t) (ht : P.underlying t = some (.array n e)) (he : P.underlying e = some (.int k)) (hce : P.cellsOf e = 1) (hct : P.cellsOf t = n)
    (h : laidMet P [(nm, Lib.tabData k zs)] W) : ∃ ty fr, W.heap[g]? = some (.cells (zs.map fun z => Value.int k z).toArray ty fr) :=
  Qiw hg (Lib.tabIs_of_head hg hty ht he hce hct h)
end Go.Proofs.YtenheconhibonaaGreatDoor.Ab
set_option linter.unusedVariables false
namespace Go.Proofs.YtenheconhibonaaGreatDoor.Ab
open Go.Lib
def decN (n : Nat) : ByteArray := ⟨(decDigits n).toArray⟩
theorem Qcy (n : Nat) : (decN n).size = nDigits n := by
  show (decDigits n).toArray.size = _
  rw [List.size_toArray, decDigits_length]
theorem QaA : ∀ (k n : Nat), n < 10 ^ (k + 1) → nDigits n ≤ k + 1
  | 0, n, h => by rw [nDigits_small (by simpa using h)]; exact Nat.le_refl _
  | k + 1, n, h => by
    by_cases hn : n < 10
    · rw [nDigits_small hn]; omega
    · rw [nDigits_big hn]
      have := QaA k (n / 10) (by rw [Nat.pow_succ] at h; omega)
      omega
theorem Qfm {n : Nat} (h : n ≤ 9223372036854775808) : (decN n).size ≤ 19 := by
  rw [Qcy]
  exact QaA 18 n (by omega)
theorem Qgx {n : Nat} (h : n ≤ 1048576) : (decN n).size ≤ 7 := by
  rw [Qcy]
  exact QaA 6 n (by omega)
theorem Qja (n : Nat) : 1 ≤ (decN n).size := by rw [Qcy]; exact nDigits_pos n
end Go.Proofs.YtenheconhibonaaGreatDoor.Ab
set_option linter.unusedSimpArgs false
set_option linter.unusedVariables false
set_option maxHeartbeats 4000000
set_option maxRecDepth 4000
namespace Go.Proofs.YtenheconhibonaaGreatDoor.Ab
open Go.Proofs Go.RowKit
def tabC : Array Value := (Lib.pow10Tab.map fun z => Value.int .u64 z).toArray
def Xu (h : AH) : Prop := HasG h 0 tabC
open Go.Sort in
theorem Qbq (w : World) (q : Nat) (os : Array Obj) : Go.RowKit.Below w.heap.size w (grow (w.drewN q) os) :=
  ⟨rfl, rfl, rfl, by simp [grow], fun i hi => by
    show ((w.drewN q).heap ++ os)[i]? = _
    rw [Array.getElem?_append_left (by show i < w.heap.size; omega)]
    rfl⟩
theorem Qhn (n : Nat) (hn : n ≤ 9223372036854775807) (h : AH) (hG : Xu h) : XG Tryz.prog 58 [.i n] h fun o h' => o = .ret (.v (.string (decN n))) ∧ h' = h :=
  QcU (vs := [.int .i64 n]) Tryz.call58 fun c hst hh => by
    have hv : c.w.var? Tryz.prog "internal/strconv.uint64pow10" = some tabC := HasG.var hst (hh ▸ hG) (by kernel_rfl)
    refine (Tryz.strconv_Itoa n (by omega) (by omega) c.w hv).mono ?_
    rintro e w' ⟨rfl, k, os, rfl⟩
    refine ⟨_, rfl, ?_, fun c' => by rw [Lib.itoa_nonneg]; exact .v _⟩
    exact Qbq c.w k os
theorem Qh8 (n : Nat) (h1 : n ≤ 1048576) (h : AH) (hG : Xu h) : XG Tryz.prog 127 [.i n] h fun o h' => o = .ret (.v (.string (vOf (decN n)))) ∧ h' = h :=
  QiM n (by omega) (by omega) _ (by have := Qgx h1; omega) h (Qhn n (by omega) h hG)
end Go.Proofs.YtenheconhibonaaGreatDoor.Ab
set_option linter.unusedSimpArgs false
set_option linter.unusedVariables false
set_option maxHeartbeats 4000000
set_option maxRecDepth 4000
namespace Go.Proofs.YtenheconhibonaaGreatDoor.Ab
open Go.Proofs
def BTy (ty : TypeId) : Prop := ty = 74 ∨ ty = 138
theorem QjN (xo : Operand) : pv Tryz.prog (do eqGuard .eql 71 xo (.const (.pointer none)) (.pointer none) (.pointer none); binOp .eql 71 (.pointer none) (.pointer none)) = some (.bool true) := by
  kernel_rfl
theorem BTy.cells {ty : TypeId} (h : BTy ty) : Tryz.prog.cellsOf ty = 2 := by rcases h with rfl | rfl <;> kernel_rfl
theorem BTy.lies {ty : TypeId} (h : BTy ty) : liesAt Tryz.prog Tryz.prog.depth ty 1 0 74 1 = true := by rcases h with rfl | rfl <;> kernel_rfl
theorem unB : Tryz.prog.underlying 71 = some (.pointer 74) := by kernel_rfl
theorem unU : Tryz.prog.underlying 169 = some .unsafePointer := by kernel_rfl
theorem inB : ∃ j, Tryz.prog.info? 74 = some j ∧ j.size ≠ 0 := by
  have h : (match Tryz.prog.info? 74 with | some j => decide (j.size ≠ 0) | none => false) = true := by kernel_rfl
  cases hj : Tryz.prog.info? 74 with
  | none => rw [hj] at h; cases h
  | some j => rw [hj] at h; exact ⟨j, rfl, of_decide_eq_true h⟩
theorem isB : (Tryz.prog.info? 74).isSome = true := by kernel_rfl
theorem toU {ty : TypeId} (hty : BTy ty) {h : AH} {i : Nat} {xs : List AV} (hb : h[i]? = some (.cells ty 2 [.agg xs])) : ZW Tryz.prog 71 169 i 0 0 h = some (.ptr i 0 0) := by
  obtain ⟨j, hj, h0⟩ := inB
  simp only [ZW, hb, unB, unU, hj]
  rw [if_neg (by simp), if_pos h0]
theorem Qj0 {ty : TypeId} (hty : BTy ty) {h : AH} {i : Nat} {xs : List AV} (hb : h[i]? = some (.cells ty 2 [.agg xs])) : ZW Tryz.prog 169 71 i 0 0 h = some (.ptr i 0 0) := by
  obtain ⟨j, hj, h0⟩ := inB
  simp only [ZW, hb, unB, unU, hj]
  rw [if_neg (by simp), if_pos ⟨rfl, hty.cells, hty.lies⟩]
theorem Qao {ty : TypeId} (hty : BTy ty) {i j : Nat} (hij : i ≠ j) (u : Bool) (tx : ByteArray) : Wr Tryz.prog 5 ty 81 [.ptr i 0 0] i j u tx (.tup []) true tx := by
  intro h hi hj
  have f1 := fun x y => YY h i x j y
  have f2 := fun x y => Y3 (h := h) hi hij x y
  have f3 := fun x y z => Qcl (h := h) (i := i) (j := j) hij x y z
  have f4 := QjN
  have c0 := fun y h => Qhu (P := Tryz.prog) (y := y) (h := h) Tryz.func121 (by kernel_rfl) (by kernel_rfl) (by kernel_rfl) (by kernel_rfl)
  cases u
  · refine Qg Tryz.func81 rfl Tryz.call81 Tryz.ntmps81 (congrArg Array.toList Tryz.results81) (by simp) ?_
    rw [bw0, bw1]
    repeat (first | ((first | (with_reducible (first | refine Qa fun K E hK hE => ?_ | refine Qn fun K E hK hE => ?_ | refine FunW.ret (c0 _ _) ?_))); simp -implicitDefEqProofs only [Qf, Qb, Qi, OpW, QW, aop, undef, AS.ev, Qc, QV, XB, Qm, QC, List.getD_cons_zero, AV.Qj3, Qr, Xd, QD, Yi, List.all_cons, List.all_nil, Xh, Bool.and_self, ↓reduceIte, List.length_cons, List.length_nil, Nat.reduceAdd, Nat.reduceLT, Nat.reduceLeDiff, Nat.reduceEqDiff, Nat.zero_add, Nat.add_zero, true_and, and_self, Ql, QI, QJ, Xb, QZ, aBin, List.getElem?_cons_zero, List.set_cons_zero, Option.map_some, List.map_cons, List.map_nil, List.cons_append, List.nil_append, List.take_zero, List.drop_succ_cons, List.drop_zero, Bool.false_eq_true, ti71, Qjl, Q0, f2, f3, f4, toU hty (Y3 (h := h) hi hij _ _), Qj0 hty (Y3 (h := h) hi hij _ _)]) | ((with_reducible refine hK _ ?_); clear hK) | (refine Qj rfl ?_; simp only [↓reduceIte]))
    simp -implicitDefEqProofs only [Option.map_some, Option.some.injEq, List.mapM_nil, Option.pure_def, Option.map_some, QO, Qp, exists_eq_left']
    exact .inr ⟨rfl, rfl⟩
  · refine Qg Tryz.func81 rfl Tryz.call81 Tryz.ntmps81 (congrArg Array.toList Tryz.results81) (by simp) ?_
    rw [bw1]
    repeat (first | (((with_reducible refine Qa fun K E hK hE => ?_)); simp -implicitDefEqProofs only [Qf, Qb, Qi, OpW, aop, undef, AS.ev, Qc, XB, Qm, QC, List.getD_cons_zero, Qr, ↓reduceIte, Nat.reduceLT, Nat.reduceEqDiff, Nat.add_zero, and_self, Ql, QI, QJ, aBin, List.getElem?_cons_zero, Option.map_some, ti71, un71, Qjl, Q0, f2, isB, Qc0, notNil]) | (with_reducible refine Qt ?_) | ((with_reducible refine hK _ ?_); clear hK) | (refine Qj rfl ?_; simp only [↓reduceIte, Bool.false_eq_true]))
    simp -implicitDefEqProofs only [Option.map_some, Option.some.injEq, List.mapM_nil, Option.pure_def, Option.map_some, QO, Qp, exists_eq_left']
    exact .inr ⟨rfl, rfl⟩
theorem Qjq : Tryz.prog.underlying 72 = some (.slice 5) := by kernel_rfl
theorem Qjh : Tryz.prog.underlying 9 = some .string := by kernel_rfl
theorem inU8 : ∃ i z, Tryz.prog.info? 5 = some i ∧ i.zero = some z ∧ i.size = 1 ∧ i.bytes = 1 ∧ z.cells.size = 1 := by
  have h : (match Tryz.prog.info? 5 with | some i => (match i.zero with | some z => decide (i.size = 1 ∧ i.bytes = 1 ∧ z.cells.size = 1) | none => false) | none => false) = true := by kernel_rfl
  cases hj : Tryz.prog.info? 5 with
  | none => rw [hj] at h; cases h
  | some i =>
    cases hz : i.zero with
    | none => rw [hj] at h; simp [hz] at h
    | some z => rw [hj] at h; simp only [hz] at h; exact ⟨i, z, rfl, hz, of_decide_eq_true h⟩
theorem appS {tx s : ByteArray} {j : Nat} {h : AH} (hj : h[j]? = some (.grow 5 1 tx.size)) (hs : tx.size + s.size ≤ 140737488355328) :
    Qa1 Tryz.prog 72 9 (.sl 1 (Xk tx) (some j)) s h = some (.sl 1 (Xk (tx ++ s)) (some j), h.set j (.grow 5 1 (tx ++ s).size)) := by
  obtain ⟨i, z, h1, h2, h3, h4, h5⟩ := inU8
  exact Qf0 Qjq Qjh h1 h2 h3 h4 h5 hj hs
theorem appN : appInfo Tryz.prog 72 9 = none := by kernel_rfl
theorem QaH {ty : TypeId} (hty : BTy ty) {i j : Nat} (hij : i ≠ j) (u : Bool) (tx s : ByteArray) (hs : tx.size + s.size ≤ 140737488355328) : Wr Tryz.prog 5 ty 35 [.ptr i 0 0, .v (.string s)] i j u tx (.tup [.i s.size, .v .nilIface]) true (tx ++ s) := by
  intro h hi hj
  have f1 := fun x y => YY h i x j y
  have f2 := fun x y => Y3 (h := h) hi hij x y
  have f3 := fun x y z => Qcl (h := h) (i := i) (j := j) hij x y z
  have f5 := fun x y z => Qcm (h := h) (i := i) (j := j) x y z
  have f6 := fun x => appS (QaU (h := h) (i := i) hj x (.grow 5 1 tx.size)) hs
  have c1 := Qao hty hij u tx h hi hj
  have hsl := Qaz Tryz.prog 9 3 Qjh s
  refine Qg Tryz.func35 rfl Tryz.call35 Tryz.ntmps35 (congrArg Array.toList Tryz.results35) (by simp) ?_
  repeat (first | ((first | (with_reducible (first | refine Qa fun K E hK hE => ?_ | refine FunW.ret (FunW.call c1) ?_))); simp -implicitDefEqProofs only [Qf, Qb, Qi, OpW, QW, aop, undef, AS.ev, Qc, QV, Qq, Xs, Qm, QC, List.getD_cons_zero, List.getD_cons_succ, AV.Qj3, Qr, Xp, QD, XT, List.all_cons, List.all_nil, QH, Bool.and_self, ↓reduceIte, List.length_cons, List.length_nil, Nat.reduceAdd, Nat.reduceLT, Nat.reduceLeDiff, Nat.reduceEqDiff, Nat.zero_add, and_self, Ql, QI, QJ, Xb, QZ, aLen, YD, List.getElem?_cons_zero, List.getElem?_cons_succ, List.set_cons_zero, Option.map_some, List.map_cons, List.map_nil, List.cons_append, List.nil_append, List.append_nil, List.take_succ_cons, List.take_zero, List.drop_succ_cons, List.drop_zero, goInt, Bool.false_eq_true, ti72, Qfg, Q0, f2, f3, f5, f6, bw1, aopR, appN, hsl]) | (with_reducible refine Qo ?_) | ((with_reducible refine hK _ ?_); clear hK))
  simp -implicitDefEqProofs only [Qm, ↓reduceIte, Nat.reduceEqDiff, Option.map_some, Option.bind_some, Option.some.injEq, List.mapM_nil, List.mapM_cons, Option.pure_def, Option.map_some, Option.bind_eq_bind, QO, Qp, Qv, exists_eq_left']
  exact .inr ⟨rfl, rfl⟩
theorem Qec {ty : TypeId} (hty : BTy ty) {i j : Nat} (hij : i ≠ j) (u : Bool) (tx : ByteArray) (b : UInt8) (hs : tx.size < 140737488355328) : Wr Tryz.prog 5 ty 149 [.ptr i 0 0, .v (.int .u8 (b.toNat : Nat))] i j u tx (.v .nilIface) true (tx ++ { data := #[b] }) := by
  intro h hi hj
  have f1 := fun x y => YY h i x j y
  have f2 := fun x y => Y3 (h := h) hi hij x y
  have f3 := fun x y z => Qcl (h := h) (i := i) (j := j) hij x y z
  have f5 := fun x y z => Qcm (h := h) (i := i) (j := j) x y z
  have f7 := fun x y => QaU (h := h) (i := i) hj x y
  have c1 := Qao hty hij u tx h hi hj
  have e1 : Xk (tx ++ { data := #[b] }) = Xk tx ++ [.v (.int .u8 (b.toNat : Nat))] := Z1 tx _
  have e2 : (tx ++ ({ data := #[b] } : ByteArray)).size = tx.size + 1 := Qu _ _
  have hs' : tx.size + 1 ≤ 140737488355328 := hs
  refine Qg Tryz.func149 rfl Tryz.call149 Tryz.ntmps149 (congrArg Array.toList Tryz.results149) (by simp) ?_
  rw [bw1, e1, e2]
  have hm : tx.size + 1 ≤ maxLen := by simp only [maxLen]; omega
  repeat (first | ((first | (with_reducible (first | refine Qa fun K E hK hE => ?_ | refine FunW.ret (FunW.call c1) ?_))); simp -implicitDefEqProofs only [Qf, Qb, Qi, OpW, QW, aop, undef, AS.ev, Qc, QV, Xs, Qm, QC, List.getD_cons_zero, List.getD_cons_succ, AV.Qj3, Qr, Q3, Xp, QD, XT, List.all_cons, List.all_nil, QB, QH, Bool.and_self, ↓reduceIte, List.length_cons, List.length_nil, Nat.reduceAdd, Nat.reduceLT, Nat.reduceLeDiff, Nat.reduceEqDiff, Nat.zero_add, and_self, Ql, QI, QJ, Xb, QZ, Q5, YD, Zd, List.getElem?_cons_zero, List.getElem?_cons_succ, List.set_cons_zero, Option.map_some, List.map_cons, List.map_nil, List.cons_append, List.nil_append, List.append_nil, List.take_succ_cons, List.take_zero, List.drop_succ_cons, List.drop_zero, beq_self_eq_true, Bool.false_eq_true, rng1, Xa, Nat.reducePow, zi5, ti72, ei72, ai72, Qfg, Q0, f2, f3, f5, f7, bw1, X3, hm, hs', Nat.mul_one]) | (with_reducible refine Qo ?_) | ((with_reducible refine hK _ ?_); clear hK))
  simp -implicitDefEqProofs only [Qm, ↓reduceIte, Option.some.injEq, QO, Qp, Qv, exists_eq_left']
  exact .inr ⟨rfl, rfl⟩
theorem unPB : Tryz.prog.underlying 140 = some (.pointer 5) := by kernel_rfl
theorem szB : Tryz.prog.cellsOf 5 = 1 := by kernel_rfl
theorem QaX {ty : TypeId} {i j : Nat} (hij : i ≠ j) (tx : ByteArray) (h0 : 0 < tx.size) (hs : tx.size ≤ 140737488355328) : Chg2 Tryz.prog 41 [.ptr i 0 0] i (bw ty i j true tx) j (.grow 5 1 tx.size) (.v (.string tx)) (bw ty i j true tx) .gone := by
  intro h hi hj
  have f1 := fun x y => YY h i x j y
  have f2 := fun x y => Y3 (h := h) hi hij x y
  have f5 := fun x y z => Qcm (h := h) (i := i) (j := j) x y z
  have f7 := fun x y => QaU (h := h) (i := i) hj x y
  have hs' : tx.size ≤ 9223372036854775807 := by omega
  have g1 := Qcb h0 j
  have g2 := fun x => Qcc (P := Tryz.prog) unPB szB (T := tx) (f7 x (.grow 5 1 tx.size)) h0 hs'
  refine Qg Tryz.func41 rfl Tryz.call41 Tryz.ntmps41 (congrArg Array.toList Tryz.results41) (by simp) ?_
  rw [bw1]
  repeat (first | ((first | (with_reducible refine Qa fun K E hK hE => ?_) | (refine QQ (id := 1) [(0, 0), (1, 0), (2, 0), (3, 0), (4, 0), (5, 0), (6, 0), (7, 0), (8, 0), (9, 0), (10, 2), (11, 0)] mixed (by kernel_rfl) fun K hK => ?_)); simp -implicitDefEqProofs only [Xc, Q7, Xn, Qf, Qb, Qi, OpW, aop, undef, AS.ev, Qc, QM, Qm, QC, List.getD_cons_zero, Qr, ↓reduceIte, Nat.reduceLT, Nat.reduceEqDiff, Nat.zero_add, Ql, QI, QJ, aLen, List.getElem?_cons_zero, List.getElem?_cons_succ, Option.map_some, List.getElem?_toArray, goInt, ti72, un72, Qfg, Q0, f2, f5, g1, g2, X3]) | (with_reducible refine Qo ?_) | ((with_reducible refine hK _ ?_); clear hK))
  simp only [QO, Qp, Qv, upd, ↓reduceIte, Option.some.injEq, exists_eq_left']
  exact .inr ⟨rfl, rfl⟩
/-- a builder to which nothing was written -/
theorem QjR : pv Tryz.prog (Builtin.len_ #[72] 3 #[.slice none 0 0]) = some (.int .i64 0) := by kernel_rfl
def bw00 (ty : TypeId) : AB := .cells ty 2 [.agg [.v (.pointer none), .v (.slice none 0 0)]]
theorem Qai {ty : TypeId} {i : Nat} : Chg Tryz.prog 41 [.ptr i 0 0] i (bw00 ty) (.v (.string .empty)) (bw00 ty) := by
  intro h hi
  have f2 := fun x => Qjp (h := h) hi x
  refine Qg Tryz.func41 rfl Tryz.call41 Tryz.ntmps41 (congrArg Array.toList Tryz.results41) (by simp) ?_
  rw [bw00]
  repeat (first | ((first | (with_reducible refine Qa fun K E hK hE => ?_) | (refine QQ (id := 1) [(0, 0), (1, 0), (2, 0), (3, 0), (4, 0), (5, 0), (6, 0), (7, 0), (8, 0), (9, 0), (10, 2), (11, 0)] mixed (by kernel_rfl) fun K hK => ?_)); simp -implicitDefEqProofs only [Xc, Q7, Xn, Qf, Qb, Qi, OpW, aop, undef, AS.ev, Qc, QM, Qm, QC, List.getD_cons_zero, Qr, ↓reduceIte, Nat.reduceLT, Nat.reduceEqDiff, Nat.zero_add, Ql, QI, QJ, aLen, List.getElem?_cons_zero, List.getElem?_cons_succ, Option.map_some, List.getElem?_toArray, ti72, Qfg, Q0, f2, Z9, YV, QjR]) | (with_reducible refine Qo ?_) | ((with_reducible refine hK _ ?_); clear hK))
  simp only [QO, Qp, Qv, upd, ↓reduceIte, Option.some.injEq, exists_eq_left']
  exact .inr ⟨rfl, rfl⟩
end Go.Proofs.YtenheconhibonaaGreatDoor.Ab
set_option linter.unusedSimpArgs false
set_option linter.unusedVariables false
set_option maxHeartbeats 4000000
set_option maxRecDepth 4000
namespace Go.Proofs.YtenheconhibonaaGreatDoor.Ab
open Go.Proofs
abbrev mi : ByteArray := { data := #[45] }
def decZ (n : Int) : ByteArray := if n < 0 then mi ++ decN n.natAbs else decN n.toNat
theorem Qir (n : Int) : (⟨(Lib.itoa n).toArray⟩ : ByteArray) = decZ n := by
  unfold decZ Lib.itoa
  split
  · apply ByteArray.ext; rfl
  · rfl
theorem QcN (n : Int) (h1 : -9223372036854775808 ≤ n) (h2 : n ≤ 9223372036854775807) : (decZ n).size ≤ 20 := by
  unfold decZ
  split
  · rw [Qu]
    have := Qfm (n := n.natAbs) (by omega)
    have : mi.size = 1 := rfl
    omega
  · have := Qfm (n := n.toNat) (by omega)
    omega
theorem Qje (n : Int) : 0 < (decZ n).size := by
  unfold decZ
  split
  · rw [Qu]
    have : mi.size = 1 := rfl
    omega
  · exact Qja _
theorem Qdi (n : Int) (h0 : -9223372036854775808 ≤ n) (hn : n ≤ 9223372036854775807) (h : AH) (hG : Xu h) : XG Tryz.prog 58 [.i n] h fun o h' => o = .ret (.v (.string (decZ n))) ∧ h' = h :=
  QcU (vs := [.int .i64 n]) Tryz.call58 fun c hst hh => by
    have hv : c.w.var? Tryz.prog "internal/strconv.uint64pow10" = some tabC := HasG.var hst (hh ▸ hG) (by kernel_rfl)
    refine (Tryz.strconv_Itoa n h0 hn c.w hv).mono ?_
    rintro e w' ⟨rfl, k, os, rfl⟩
    refine ⟨_, rfl, ?_, fun c' => by rw [← Qir]; exact .v _⟩
    exact Qbq c.w k os
def ofB (s : ByteArray) : Int := if (s.toList == ({ data := #[43] } : ByteArray).toList) || (s.toList == ({ data := #[45] } : ByteArray).toList) then 1 else if (s.toList == ({ data := #[42] } : ByteArray).toList) || (s.toList == ({ data := #[47] } : ByteArray).toList) || (s.toList == ({ data := #[37] } : ByteArray).toList) then 2 else 0
def T.oper (t : T) : Int := if t.kind ≠ 2 ∨ t.args.length ≠ 2 then 0 else ofB t.name
theorem QgQ (s : ByteArray) : Pure Tryz.prog 150 [.v (.string s)] (.i (ofB s)) := by
  intro h
  cases b1 : s.toList == ({ data := #[43] } : ByteArray).toList
  · cases b2 : s.toList == ({ data := #[45] } : ByteArray).toList
    · cases b3 : s.toList == ({ data := #[42] } : ByteArray).toList
      · cases b4 : s.toList == ({ data := #[47] } : ByteArray).toList
        · cases b5 : s.toList == ({ data := #[37] } : ByteArray).toList
          · have e : ofB s = 0 := by rw [ofB, b1, b2, b3, b4, b5]; rfl
            refine Qg Tryz.func150 rfl Tryz.call150 Tryz.ntmps150 (congrArg Array.toList Tryz.results150) (by simp) ?_
            repeat (first | ((first | (with_reducible (first | refine Qa fun K E hK hE => ?_ | refine Qn fun K E hK hE => ?_))); simp -implicitDefEqProofs only [Qf, Qb, Qi, OpW, aop, undef, AS.ev, Qc, Qq, QM, Qm, QC, List.getD_cons_zero, ↓reduceIte, Nat.reduceLT, Nat.reduceEqDiff, aBin, Option.map_some, Xm, b1, b2, b3, b4, b5]) | (with_reducible (first | refine Qh fun K hK => ?_ | refine Qk ?_ | refine Qo ?_ | refine Qt ?_ | refine Qe ?_ | refine Qs ?_)) | ((with_reducible refine hK _ ?_); clear hK) | (refine Qj rfl ?_; simp only [↓reduceIte, Bool.false_eq_true]))
            simp only [QO, Qp, Qv, upd, ↓reduceIte, Option.some.injEq, exists_eq_left']; first | refine Qd (htake _ _) (.keep (.v _)) ⟨by rw [e], rfl⟩ | refine Qd List.take_length (.keep (.v _)) ⟨by rw [e], rfl⟩
          · have e : ofB s = 2 := by rw [ofB, b1, b2, b3, b4, b5]; rfl
            refine Qg Tryz.func150 rfl Tryz.call150 Tryz.ntmps150 (congrArg Array.toList Tryz.results150) (by simp) ?_
            repeat (first | ((first | (with_reducible (first | refine Qa fun K E hK hE => ?_ | refine Qn fun K E hK hE => ?_))); simp -implicitDefEqProofs only [Qf, Qb, Qi, OpW, aop, undef, AS.ev, Qc, Qq, QM, Qm, QC, List.getD_cons_zero, ↓reduceIte, Nat.reduceLT, Nat.reduceEqDiff, aBin, Option.map_some, Xm, b1, b2, b3, b4, b5]) | (with_reducible (first | refine Qh fun K hK => ?_ | refine Qk ?_ | refine Qo ?_ | refine Qe ?_ | refine QA ?_ | refine QE ?_)) | ((with_reducible refine hK _ ?_); clear hK) | (refine Qj rfl ?_; simp only [↓reduceIte, Bool.false_eq_true]))
            simp only [QO, Qp, Qv, upd, ↓reduceIte, Option.some.injEq, exists_eq_left']; first | refine Qd (htake _ _) (.keep (.v _)) ⟨by rw [e], rfl⟩ | refine Qd List.take_length (.keep (.v _)) ⟨by rw [e], rfl⟩
        · have e : ofB s = 2 := by rw [ofB, b1, b2, b3, b4]; rfl
          refine Qg Tryz.func150 rfl Tryz.call150 Tryz.ntmps150 (congrArg Array.toList Tryz.results150) (by simp) ?_
          repeat (first | ((first | (with_reducible (first | refine Qa fun K E hK hE => ?_ | refine Qn fun K E hK hE => ?_))); simp -implicitDefEqProofs only [Qf, Qb, Qi, OpW, aop, undef, AS.ev, Qc, Qq, QM, Qm, QC, List.getD_cons_zero, ↓reduceIte, Nat.reduceLT, Nat.reduceEqDiff, aBin, Option.map_some, Xm, b1, b2, b3, b4]) | (with_reducible (first | refine Qh fun K hK => ?_ | refine Qk ?_ | refine Qo ?_ | refine Qt ?_ | refine Qe ?_ | refine QA ?_ | refine QE ?_)) | ((with_reducible refine hK _ ?_); clear hK) | (refine Qj rfl ?_; simp only [↓reduceIte, Bool.false_eq_true]))
          simp only [QO, Qp, Qv, upd, ↓reduceIte, Option.some.injEq, exists_eq_left']; first | refine Qd (htake _ _) (.keep (.v _)) ⟨by rw [e], rfl⟩ | refine Qd List.take_length (.keep (.v _)) ⟨by rw [e], rfl⟩
      · have e : ofB s = 2 := by rw [ofB, b1, b2, b3]; rfl
        refine Qg Tryz.func150 rfl Tryz.call150 Tryz.ntmps150 (congrArg Array.toList Tryz.results150) (by simp) ?_
        repeat (first | ((first | (with_reducible (first | refine Qa fun K E hK hE => ?_ | refine Qn fun K E hK hE => ?_))); simp -implicitDefEqProofs only [Qf, Qb, Qi, OpW, aop, undef, AS.ev, Qc, Qq, QM, Qm, QC, List.getD_cons_zero, ↓reduceIte, Nat.reduceLT, Nat.reduceEqDiff, aBin, Option.map_some, Xm, b1, b2, b3]) | (with_reducible (first | refine Qh fun K hK => ?_ | refine Qk ?_ | refine Qo ?_ | refine Qt ?_ | refine Qe ?_ | refine QA ?_ | refine QE ?_)) | ((with_reducible refine hK _ ?_); clear hK) | (refine Qj rfl ?_; simp only [↓reduceIte, Bool.false_eq_true]))
        simp only [QO, Qp, Qv, upd, ↓reduceIte, Option.some.injEq, exists_eq_left']; first | refine Qd (htake _ _) (.keep (.v _)) ⟨by rw [e], rfl⟩ | refine Qd List.take_length (.keep (.v _)) ⟨by rw [e], rfl⟩
    · have e : ofB s = 1 := by rw [ofB, b1, b2]; rfl
      refine Qg Tryz.func150 rfl Tryz.call150 Tryz.ntmps150 (congrArg Array.toList Tryz.results150) (by simp) ?_
      repeat (first | ((first | (with_reducible (first | refine Qa fun K E hK hE => ?_ | refine Qn fun K E hK hE => ?_))); simp -implicitDefEqProofs only [Qf, Qb, Qi, OpW, aop, undef, AS.ev, Qc, Qq, QM, Qm, QC, List.getD_cons_zero, ↓reduceIte, Nat.reduceLT, Nat.reduceEqDiff, aBin, Option.map_some, Xm, b1, b2]) | (with_reducible (first | refine Qh fun K hK => ?_ | refine Qk ?_ | refine Qo ?_ | refine Qe ?_ | refine QA ?_ | refine QE ?_)) | ((with_reducible refine hK _ ?_); clear hK) | (refine Qj rfl ?_; simp only [↓reduceIte, Bool.false_eq_true]))
      simp only [QO, Qp, Qv, upd, ↓reduceIte, Option.some.injEq, exists_eq_left']; first | refine Qd (htake _ _) (.keep (.v _)) ⟨by rw [e], rfl⟩ | refine Qd List.take_length (.keep (.v _)) ⟨by rw [e], rfl⟩
  · have e : ofB s = 1 := by rw [ofB, b1]; rfl
    refine Qg Tryz.func150 rfl Tryz.call150 Tryz.ntmps150 (congrArg Array.toList Tryz.results150) (by simp) ?_
    repeat (first | (((with_reducible refine Qa fun K E hK hE => ?_)); simp -implicitDefEqProofs only [Qf, Qb, Qi, OpW, aop, undef, AS.ev, Qc, Qq, QM, Qm, QC, List.getD_cons_zero, ↓reduceIte, Nat.reduceLT, Nat.reduceEqDiff, aBin, Option.map_some, Xm, b1]) | (with_reducible (first | refine Qh fun K hK => ?_ | refine Qk ?_ | refine Qo ?_ | refine Qt ?_ | refine Qe ?_ | refine QA ?_ | refine QE ?_)) | ((with_reducible refine hK _ ?_); clear hK) | (refine Qj rfl ?_; simp only [↓reduceIte]))
    simp only [QO, Qp, Qv, upd, ↓reduceIte, Option.some.injEq, exists_eq_left']; first | refine Qd (htake _ _) (.keep (.v _)) ⟨by rw [e], rfl⟩ | refine Qd List.take_length (.keep (.v _)) ⟨by rw [e], rfl⟩
theorem QaT (t : T) (hl : t.args.length ≤ maxLen) : Pure Tryz.prog 124 [t.av] (.i t.oper) := by
  intro h
  have c1 := QgQ t.name
  have e1 : t.av = .agg [.i t.kind, .i t.int, .v (.string t.name), .sl 4 (avs t.args) none] := by cases t; rfl
  have m1 : ((t.args.length : Int) == 2) = decide (t.args.length = 2) := by
    rw [Bool.eq_iff_iff]; simp; omega
  by_cases hk : t.kind = 2
  · by_cases hn : t.args.length = 2
    · have e : t.oper = ofB t.name := by rw [T.oper, if_neg]; omega
      have m2 : ((t.args.length : Int) != 2) = false := by simp; omega
      refine Qg Tryz.func124 rfl Tryz.call124 Tryz.ntmps124 (congrArg Array.toList Tryz.results124) (by simp) ?_
      rw [e1]
      repeat (first | ((first | (with_reducible (first | refine Qa fun K E hK hE => ?_ | refine Qy c1 ?_))); simp -implicitDefEqProofs only [Qf, Qb, Qi, OpW, QW, aop, undef, AS.ev, Qc, Qq, Qm, QC, List.getD_cons_zero, AV.Qj3, Qr, List.all_cons, List.all_nil, QB, Qw, QH, Bool.and_self, ↓reduceIte, List.length_cons, List.length_nil, Nat.reduceAdd, Nat.reduceLT, Nat.reduceEqDiff, Nat.zero_add, Nat.add_zero, Ql, QI, QJ, aBin, aLen, QX, List.getElem?_cons_zero, List.getElem?_cons_succ, Option.map_some, Option.bind_some, List.getElem?_toArray, List.map_cons, List.map_nil, XJ, goInt, beq_self_eq_true, bne_self_eq_false, Bool.false_eq_true, QG, ti3, ti9, ti44, un44, Xw, X6, XL, hk, m2, QG]) | (with_reducible (first | refine Qh fun K hK => ?_ | refine Qo ?_ | refine Qt ?_ | refine Qe ?_)) | ((with_reducible refine hK _ ?_); clear hK) | (refine Qj rfl ?_; simp only [↓reduceIte, Bool.false_eq_true]))
      simp only [QO, Qp, Qv, upd, ↓reduceIte, Option.some.injEq, exists_eq_left']; first | refine Qd (htake _ _) (.keep (.v _)) ⟨by rw [e], rfl⟩ | refine Qd List.take_length (.keep (.v _)) ⟨by rw [e], rfl⟩
    · have e : t.oper = 0 := by rw [T.oper, if_pos (.inr hn)]
      have m2 : ((t.args.length : Int) != 2) = true := by simp; omega
      refine Qg Tryz.func124 rfl Tryz.call124 Tryz.ntmps124 (congrArg Array.toList Tryz.results124) (by simp) ?_
      rw [e1]
      repeat (first | (((with_reducible refine Qa fun K E hK hE => ?_)); simp -implicitDefEqProofs only [Qf, Qb, Qi, OpW, aop, undef, AS.ev, Qc, Qq, Qm, QC, List.getD_cons_zero, AV.Qj3, Qr, List.all_cons, List.all_nil, QB, Qw, QH, Bool.and_self, ↓reduceIte, List.length_cons, List.length_nil, Nat.reduceAdd, Nat.reduceLT, Nat.reduceEqDiff, Nat.zero_add, Nat.add_zero, Ql, QI, QJ, aBin, aLen, QX, List.getElem?_cons_zero, List.getElem?_cons_succ, Option.map_some, Option.bind_some, List.getElem?_toArray, XJ, goInt, beq_self_eq_true, bne_self_eq_false, Bool.false_eq_true, QG, ti3, ti44, un44, Xw, XL, hk, QG, m2]) | (with_reducible (first | refine Qh fun K hK => ?_ | refine Qo ?_ | refine QA ?_)) | ((with_reducible refine hK _ ?_); clear hK) | (refine Qj rfl ?_; simp only [↓reduceIte]))
      simp only [QO, Qp, Qv, upd, ↓reduceIte, Option.some.injEq, exists_eq_left']; first | refine Qd (htake _ _) (.keep (.v _)) ⟨by rw [e], rfl⟩ | refine Qd List.take_length (.keep (.v _)) ⟨by rw [e], rfl⟩
  · have e : t.oper = 0 := by rw [T.oper, if_pos (.inl hk)]
    have m2 : (t.kind != 2) = true := by simpa using hk
    refine Qg Tryz.func124 rfl Tryz.call124 Tryz.ntmps124 (congrArg Array.toList Tryz.results124) (by simp) ?_
    rw [e1]
    repeat (first | (((with_reducible refine Qa fun K E hK hE => ?_)); simp -implicitDefEqProofs only [Qf, Qb, Qi, OpW, aop, undef, AS.ev, Qc, Qq, Qz, Qm, QC, List.getD_cons_zero, AV.Qj3, Qr, List.all_cons, List.all_nil, QB, Qw, QH, Bool.and_self, Bool.not_true, ↓reduceIte, List.length_cons, List.length_nil, Nat.reduceAdd, Nat.reduceLT, Nat.reduceEqDiff, Nat.zero_add, Nat.add_zero, Ql, QI, QJ, aBin, QX, List.getElem?_cons_zero, List.getElem?_cons_succ, Option.map_some, Option.bind_some, List.getElem?_toArray, XJ, beq_false, ti3, Xw, m2]) | (with_reducible (first | refine Qh fun K hK => ?_ | refine Qo ?_ | refine QA ?_)) | ((with_reducible refine hK _ ?_); clear hK) | (refine Qj rfl ?_; simp only [↓reduceIte]))
    simp only [QO, Qp, Qv, upd, ↓reduceIte, Option.some.injEq, exists_eq_left']; first | refine Qd (htake _ _) (.keep (.v _)) ⟨by rw [e], rfl⟩ | refine Qd List.take_length (.keep (.v _)) ⟨by rw [e], rfl⟩
end Go.Proofs.YtenheconhibonaaGreatDoor.Ab
set_option linter.unusedVariables false
namespace Go.Proofs.YtenheconhibonaaGreatDoor.Ab
/-- a deferred call: the function, and all of its arguments -/
abbrev DA := FuncId × List AV
def RelD (c : Cx) (d : DA) (x : Deferred) : Prop := ∃ caps, x.target = .fn (.func d.1) caps ∧ RelL c d.2 (x.args ++ caps)
theorem RelD.ev {c c' : Cx} (hs : St c) (h : Ev c c') {d : DA} {x : Deferred} (hr : RelD c d x) : RelD c' d x :=
  let ⟨caps, e, r⟩ := hr; ⟨caps, e, r.ev hs h⟩
/-- what waits: a mark of a loop over a function, or a call -/
inductive Ent where
  | mark (D : Nat)
  | call (d : DA) (x : Deferred)
def Ent.dfr : Ent → Deferred
  | .mark D => Qgq D
  | .call _ x => x
def Ent.da : Ent → Option DA
  | .mark _ => none
  | .call d _ => some d
def Ent.mk? : Ent → Option Nat
  | .mark D => some D
  | .call _ _ => none
def Ent.ok (c : Cx) (lo : Nat) : Ent → Prop
  | .mark D => lo ≤ D ∧ c.w.heap[D]? = some (.deferred (some [])) ∧ ¬ c.owns D
  | .call d x => RelD c d x
theorem Ent.ok.ev {c c' : Cx} (hs : St c) (h : Ev c c') {lo : Nat} {e : Ent} (hk : e.ok c lo) : e.ok c' lo := by
  cases e with
  | mark D =>
    obtain ⟨h1, h2, h3⟩ := hk
    have hlt := (Array.getElem?_eq_some_iff.1 h2).1
    exact ⟨h1, (h.frame D hlt h3).trans h2, fun ho => h3 (h.owns hlt ho)⟩
  | call d x => exact RelD.ev hs h hk
def DefsOk (c : Cx) (lo : Nat) (ds : List DA) (l : List Deferred) : Prop :=
  ∃ es : List Ent, l = es.map Ent.dfr ∧ ds = es.filterMap Ent.da ∧ (es.filterMap Ent.mk?).Nodup ∧ ∀ e ∈ es, e.ok c lo
theorem DefsOk.ev {c c' : Cx} (hs : St c) (h : Ev c c') {lo : Nat} {ds : List DA} {l : List Deferred} (hd : DefsOk c lo ds l) : DefsOk c' lo ds l :=
  let ⟨es, h1, h2, h3, h4⟩ := hd; ⟨es, h1, h2, h3, fun e he => (h4 e he).ev hs h⟩
theorem QiF (Ds : List Nat) : (Ds.map Ent.mark).map Ent.dfr = Ds.map Qgq := by rw [List.map_map]; rfl
theorem Qjg (Ds : List Nat) : (Ds.map Ent.mark).filterMap Ent.da = [] := by
  induction Ds with
  | nil => rfl
  | cons D Ds ih => rw [List.map_cons, List.filterMap_cons, ih]; rfl
theorem QiT (Ds : List Nat) : (Ds.map Ent.mark).filterMap Ent.mk? = Ds := by
  induction Ds with
  | nil => rfl
  | cons D Ds ih => rw [List.map_cons, List.filterMap_cons, ih]; rfl
/-- marks that were laid above -/
theorem DefsOk.marks {c c' : Cx} (hs : St c) (h : Ev c c') {lo : Nat} {ds : List DA} {l l' : List Deferred} (hlo : lo ≤ c.w.heap.size) (hd : DefsOk c lo ds l) (hd' : DefOk c' ⟨c.w.heap.size, l⟩ l') : DefsOk c' lo ds l' := by
  obtain ⟨Ds, f1, f2, f3⟩ := hd'
  obtain ⟨es, e1, e2, e3, e4⟩ := hd
  refine ⟨Ds.map Ent.mark ++ es, ?_, ?_, ?_, ?_⟩
  · rw [f1, List.map_append, QiF, e1]
  · rw [List.filterMap_append, Qjg, List.nil_append, e2]
  · rw [List.filterMap_append, QiT, List.nodup_append]
    refine ⟨f2, e3, fun a ha b hb hab => ?_⟩
    subst hab
    have g1 := (f3 a ha).1
    simp only [List.mem_filterMap] at hb
    obtain ⟨e, he, hm⟩ := hb
    cases e with
    | call d x => cases hm
    | mark D =>
      simp only [Ent.mk?, Option.some.injEq] at hm
      subst hm
      have := (Array.getElem?_eq_some_iff.1 (e4 _ he).2.1).1
      simp only at g1
      omega
  · intro e he
    rcases List.mem_append.1 he with he | he
    · obtain ⟨D, hD, rfl⟩ := List.mem_map.1 he
      obtain ⟨g1, g2, g3⟩ := f3 D hD
      exact ⟨Nat.le_trans hlo g1, g2, g3⟩
    · exact (e4 e he).ev hs h
structure SRd (N lo : Nat) (c : Cx) (s : AS) (a : Act) (ds : List DA) : Prop where
  h : c.h = s.h
  size : a.tmps.size = N
  above : lo ≤ c.w.heap.size
  defs : DefsOk c lo ds a.defers
  tm : ∀ t, Rel c (s.tm t) (a.tmps.getD t undef)
theorem SRd.sr {N lo : Nat} {c : Cx} {s : AS} {a : Act} {ds : List DA} (h : SRd N lo c s a ds) {F : Fence} (hro : F.round = none) : SR N (⟨c.w.heap.size, a.defers⟩, F) c s a :=
  ⟨h.h, h.size, Nat.le_refl _, ⟨[], rfl, List.nodup_nil, fun D hD => by cases hD⟩, fun l hl => (by rw [hro] at hl; cases hl), h.tm⟩
theorem SRd.Qke {N lo : Nat} {c c' : Cx} {s s' : AS} {a a' : Act} {ds : List DA} {F : Fence} (hs : St c) (h : SRd N lo c s a ds) (hev : Ev c c') (hr : SR N (⟨c.w.heap.size, a.defers⟩, F) c' s' a') : SRd N lo c' s' a' ds :=
  ⟨hr.h, hr.size, Nat.le_trans h.above hev.size, h.defs.marks hs hev h.above hr.defers, hr.tm⟩
/-- a piece of a body that may defer calls -/
def DefW (P : Program) (N : Nat) (code : Code) (Q : AExit → AS → List DA → Prop) (s : AS) (ds : List DA) : Prop :=
  ∀ (F : Fence) (n lo : Nat) (c : Cx) (a : Act), WF F → F.round = none → St c → SRd N lo c s a ds →
    ∀ R : Exit → Act → World → Prop, (∀ e s' ds' c' a' e', Q e s' ds' → Ev c c' → St c' → SRd N lo c' s' a' ds' → ExC c' e e' → R e' a' c'.w) → code.wpIn F n P R a c.w
section rules
variable {P : Program} {N : Nat} {Q : AExit → AS → List DA → Prop} {s : AS} {ds : List DA}
theorem Qbz {code : Code} (H : YE P N code (fun e s' => Q e s' ds) s) : DefW P N code Q s ds := by
  intro F n lo c a hF hro hst hr R hR
  refine H F n ⟨c.w.heap.size, a.defers⟩ c a hF hst (hr.sr hro) R fun e s' c' a' e' hQ hev hst' hsr hex => ?_
  exact hR e s' ds c' a' e' hQ hev hst' (hr.Qke hst hev hsr) hex
def AExit.Qks (K : AS → List DA → Prop) (Q : AExit → AS → List DA → Prop) : AExit → AS → List DA → Prop
  | .normal, s, ds => K s ds
  | e, s, ds => Q e s ds
theorem QdA {x y : Code} (h : DefW P N x (AExit.Qks (fun s ds => DefW P N y Q s ds) Q) s ds) : DefW P N (.seq x y) Q s ds := by
  intro F n lo c a hF hro hs hr R hR
  refine wpIn_seq (h F n lo c a hF hro hs hr _ ?_)
  intro e s' ds' c' a' e' hQ hev hst hsr hex
  cases e with
  | normal =>
    cases hex
    exact hQ F n lo c' a' hF hro hst hsr R fun e s2 ds2 c2 a2 e2 hQ2 hev2 hst2 hsr2 hex2 => hR e s2 ds2 c2 a2 e2 hQ2 (Ev.trans hs hev hev2) hst2 hsr2 hex2
  | exit id => cases hex; exact hR _ s' ds' c' a' _ hQ hev hst hsr rfl
  | ret => cases hex; exact hR _ s' ds' c' a' _ hQ hev hst hsr rfl
  | panic av => obtain ⟨x, rfl, hx⟩ := hex; exact hR _ s' ds' c' a' _ hQ hev hst hsr ⟨x, rfl, hx⟩
theorem QhO {o : Operand} {x y : Code} {t : Bool} (ho : s.ev o = .v (.bool t)) (h : DefW P N (if t then x else y) Q s ds) : DefW P N (.cond o x y) Q s ds := by
  intro F n lo c a hF hro hs hr R hR
  have he := (hr.sr hro).eval o
  rw [ho] at he
  have hx : a.eval o = .bool t := by
    generalize a.eval o = u at he
    cases he; rfl
  exact wpIn_cond hx (h F n lo c a hF hro hs hr R hR)
/-- a region in whose middle a call is deferred -/
theorem QfQ {id : Nat} {ops : Array Oper} (i : Nat) {o : Oper} {cl : Call} {f : Operand} (ho : ops.toList[i]? = some o) (hop : o.op = .defer cl) (hcl : cl.callee = .value f)
    (H : OpsW P N ops (ops.toList.take i) (fun s1 => Qi ops s1.tm o = some true ∧ ∃ g first cap, s1.ev f = .fn (.func g) first cap ∧
      OpsW P N ops (ops.toList.drop (i + 1)) (fun s2 => Q .normal s2 ((g, first ++ cl.args.toList.map s1.ev ++ cap) :: ds)) (fun r s2 => Q (.panic r) s2 ((g, first ++ cl.args.toList.map s1.ev ++ cap) :: ds)) (AS.put N s1 o.dst (.v undef)))
      (fun r s1 => Q (.panic r) s1 ds) s) : DefW P N (.region id ops false) Q s ds := by
  intro F n lo c a hF hro hst hr R hR
  refine wpIn_region ?_
  have hlt := QK ho
  have hi : (ops.toList.take i).length = i := by rw [List.length_take]; omega
  have hrange : List.range ops.size = List.range' 0 (ops.toList.take i).length ++ (i :: (List.range' (i + 1) (ops.toList.drop (i + 1)).length ++ [])) := by
    rw [hi, List.append_nil, List.length_drop, List.range_eq_range', ← Array.length_toList]
    have : ops.toList.length = i + (1 + (ops.toList.length - (i + 1))) := by omega
    conv => lhs; rw [this]
    rw [← List.range'_append_1, Nat.zero_add, ← List.range'_append_1]
    rfl
  have hget : ∀ j, (ops.toList.drop (i + 1))[j]? = ops[i + 1 + j]? := fun j => by rw [List.getElem?_drop]; simp
  rw [hrange]
  refine QdG hF (ops.toList.take i) 0 s c a (fun j hj => by rw [List.getElem?_take, if_pos (by omega)]; simp) H hst (hr.sr hro) ?_ ?_
  · intro s1 c1 a1 h1 h2 h3 h4
    have h0 : ops[i]? = some o := by rw [← ho]; simp
    obtain ⟨hw, g, first, cap, hf, hpost⟩ := h1
    simp only [wpOpsIn, h0]
    rw [Yz h4 hw]
    simp only [if_true]
    have hr1 := hr.Qke hst h2 h4
    have hfv := h4.eval f
    rw [hf] at hfv
    obtain ⟨vs, ws, hae, hv1, hv2⟩ : ∃ vs ws, a1.eval f = .func (.func g) vs ws ∧ RelL c1 first vs ∧ RelL c1 cap ws := by
      generalize a1.eval f = u at hfv
      cases hfv with
      | fn _ _ _ vs ws e1 e2 g1 g2 => exact ⟨vs, ws, rfl, ⟨e1, g1⟩, ⟨e2, g2⟩⟩
    have hargs : RelL c1 (cl.args.toList.map s1.ev) (cl.args.map a1.eval) := by
      refine ⟨by simp, fun j x u hx hu => ?_⟩
      rw [List.getElem?_map] at hx
      rw [Array.getElem?_map] at hu
      cases hj : cl.args[j]? with
      | none => simp [hj] at hu
      | some q =>
        simp only [hj, Option.map_some, Option.some.injEq] at hu
        simp only [Array.getElem?_toList, hj, Option.map_some, Option.some.injEq] at hx
        subst hx; subst hu
        exact h4.eval q
    have hD : RelD c1 (g, first ++ cl.args.toList.map s1.ev ++ cap) ⟨.fn (.func g) ws, vs ++ cl.args.map a1.eval⟩ := ⟨ws, rfl, RelL.append (RelL.append hv1 hargs) hv2⟩
    have hrun : (execOp a1.eval o).run P c1.w = .ok (.defer ⟨.fn (.func g) ws, vs ++ cl.args.map a1.eval⟩) c1.w := by
      simp only [execOp, hop, resolve, hcl, hae, Deferred.ofValue, Sem.run_bind, Sem.run_pure, Result.andThen_ok]
    refine ⟨fun f _ => hF.fn f, ?_⟩
    rw [hro, Oper.semAt_none, hrun, Oper.uponIn_defer]
    have hput := h4.put h3 (Ev.refl c1) o.dst (.v undef)
    rw [h4.h] at hput
    have hd2 : DefsOk c1 lo ((g, first ++ cl.args.toList.map s1.ev ++ cap) :: ds) (⟨.fn (.func g) ws, vs ++ cl.args.map a1.eval⟩ :: a1.defers) := by
      obtain ⟨es, e1, e2, e3, e4⟩ := hr1.defs
      refine ⟨.call _ ⟨.fn (.func g) ws, vs ++ cl.args.map a1.eval⟩ :: es, by rw [e1]; rfl, by rw [e2]; rfl, e3, fun e he => ?_⟩
      rcases List.mem_cons.1 he with rfl | he
      · exact hD
      · exact e4 e he
    have hdf : ((({ a1 with defers := ⟨.fn (.func g) ws, vs ++ cl.args.map a1.eval⟩ :: a1.defers } : Act).put o.dst undef)).defers = ⟨.fn (.func g) ws, vs ++ cl.args.map a1.eval⟩ :: a1.defers := by
      cases o.dst <;> rfl
    have htm : ((({ a1 with defers := ⟨.fn (.func g) ws, vs ++ cl.args.map a1.eval⟩ :: a1.defers } : Act).put o.dst undef)).tmps = (a1.put o.dst undef).tmps := by
      cases o.dst <;> rfl
    have hr2 : SRd N lo c1 (AS.put N s1 o.dst (.v undef)) (({ a1 with defers := ⟨.fn (.func g) ws, vs ++ cl.args.map a1.eval⟩ :: a1.defers } : Act).put o.dst undef) ((g, first ++ cl.args.toList.map s1.ev ++ cap) :: ds) :=
      ⟨hput.h, by rw [htm]; exact hput.size, hr1.above, by rw [hdf]; exact hd2, fun t => by rw [htm]; exact hput.tm t⟩
    refine QdG hF _ (i + 1) _ c1 _ (fun j _ => hget j) hpost h3 (hr2.sr hro) ?_ ?_
    · intro s' c' a' hQ k1 k2 k3
      simp only [wpOpsIn]
      exact hR _ s' _ c' a' _ hQ (Ev.trans hst h2 k1) k2 (hr2.Qke h3 k1 k3) rfl
    · intro r s' c' a' x hQ k1 k2 k3 hx
      exact hR _ s' _ c' a' _ hQ (Ev.trans hst h2 k1) k2 (hr2.Qke h3 k1 k3) ⟨x, rfl, hx⟩
  · intro r s' c' a' x hQ h1 h2 h3 hx
    exact hR _ s' ds c' a' _ hQ h1 h2 (hr.Qke hst h1 h3) ⟨x, rfl, hx⟩
end rules
/-- how a frame leaves -/
inductive AMode where
  | ret
  | pan (v : AV) (recovered : Bool)
def MdC (c : Cx) : AMode → FrameMode → Prop
  | .ret, u => u = .returning
  | .pan v b, u => ∃ x, u = .panicking [{ v := x, recovered := b }] ∧ Rel c v x
theorem MdC.ev {c c' : Cx} (hs : St c) (h : Ev c c') {m : AMode} {u : FrameMode} (hm : MdC c m u) : MdC c' m u := by
  cases m with
  | ret => exact hm
  | pan v b => obtain ⟨x, e, r⟩ := hm; exact ⟨x, e, r.ev hs h⟩
theorem MdC.run {c : Cx} {m : AMode} {u : FrameMode} (hm : MdC c m u) : u ≠ .run := by
  cases m with
  | ret => rw [show u = .returning from hm]; simp
  | pan v b => obtain ⟨x, e, r⟩ := hm; rw [e]; simp
def AMode.settle : AMode → AMode
  | .pan _ true => .ret
  | m => m
theorem MdC.settle {c : Cx} {m : AMode} {u : FrameMode} (hm : MdC c m u) : MdC c m.settle (Go.settle u) := by
  cases m with
  | ret => rw [show u = .returning from hm]; rfl
  | pan v b =>
    obtain ⟨x, rfl, r⟩ := hm
    cases b with
    | true => rfl
    | false => exact ⟨x, rfl, r⟩
/-- a deferred call -/
def QbC (P : Program) (f : FuncId) (args : List AV) (h : AH) (m : AMode) (Q : AMode → AH → Prop) : Prop :=
  (∀ vals w, (callFunc f vals).run P w = .ok (.enter f vals) w) ∧
  ∀ (F : Fence) (n : Nat) (c : Cx) (vals : Array Value) (u : FrameMode), WF F → F.round = none → St c → c.h = h → RelL c args vals → MdC c m u →
    CallsDIn F n P f vals u c.w fun e u' w' => ∃ x m' c', e = .returned x ∧ Q m' c'.h ∧ Ev c c' ∧ St c' ∧ c'.w = w' ∧ MdC c' m' u'
/-- the calls that wait are made, the last first; then the results are read -/
def QfM (P : Program) (rs : List ResultVar) (h : AH) (Q : AOut → AH → Prop) : List DA → AMode → AS → Prop
  | [], .ret, s => QO P rs h Q .ret s
  | [], .pan v _, s => QO P rs h Q (.panic v) s
  | d :: ds, m, s => QbC P d.1 d.2 s.h m fun m' h' => QfM P rs h Q ds m'.settle ⟨s.tm, h'⟩
/-- the state of a frame on its way out -/
structure Out (N : Nat) (c : Cx) (s : AS) (tmps : Array Value) : Prop where
  h : c.h = s.h
  size : tmps.size = N
  tm : ∀ t, Rel c (s.tm t) (tmps.getD t undef)
theorem QaY {P : Program} {F : Fence} (hF : WF F) (hro : F.round = none) {n : Nat} {fn : Func} {tmps : Array Value} {rs : List ResultVar} (hrs : fn.results.toList = rs) {Q : AOut → AH → Prop} {c0 : Cx} (hs0 : St c0) :
    ∀ (es : List Ent) (c : Cx) (s : AS) (m : AMode) (u : FrameMode), Ev c0 c → St c → Out fn.ntmps c s tmps → (es.filterMap Ent.mk?).Nodup → (∀ e ∈ es, e.ok c c0.w.heap.size) → MdC c m u → (∀ v, m ≠ .pan v true) →
      QfM P rs c0.h Q (es.filterMap Ent.da) m s →
      LeavesInM F n P fn tmps (fun e w' => ∃ o c', Q o c'.h ∧ Ev c0 c' ∧ St c' ∧ c'.w = w' ∧ EndC c' o e) (es.map Ent.dfr) u c.w
  | [], c, s, m, u, hev, hst, hout, _, _, hm, hnr, H => by
    have hsr : SR fn.ntmps (⟨0, []⟩, F) c s { tmps := tmps, defers := [] } := ⟨hout.h, hout.size, Nat.zero_le _, ⟨[], rfl, List.nodup_nil, fun D h => by cases h⟩, fun l hl => (by rw [hro] at hl; cases hl), hout.tm⟩
    cases m with
    | ret =>
      rw [show u = .returning from hm]
      obtain ⟨r, hres, hl⟩ := (show QO P rs c0.h Q .ret s from H)
      subst hrs
      obtain ⟨x, hrun, hx⟩ := Qan hst hsr hres
      rw [← hout.h] at hl
      obtain ⟨c3, r', h1, h2, h3, h4, h5⟩ := ZA hs0 hst hev hx hl
      exact ⟨x, hrun, .ret r', c3, h1, h2, h3, h4, x, rfl, h5⟩
    | pan v b =>
      obtain ⟨x, rfl, hx⟩ := hm
      have hl : Leaves c0.h s.h v fun r h' => Q (.panic r) h' := H
      rw [← hout.h] at hl
      obtain ⟨c3, r', h1, h2, h3, h4, h5⟩ := ZA hs0 hst hev hx hl
      cases b with
      | true => exact absurd rfl (hnr v)
      | false => exact ⟨.panic r', c3, h1, h2, h3, h4, x, rfl, h5⟩
  | .mark D :: es, c, s, m, u, hev, hst, hout, hnd, hok, hm, hnr, H => by
    obtain ⟨hD1, hD2, hD3⟩ := hok (.mark D) (by simp)
    simp only [List.map_cons, LeavesInM]
    refine ⟨hm.run, .inl ⟨D, _, rfl, Zg hD2, ?_⟩⟩
    have hnd' := List.nodup_cons.1 (show (D :: es.filterMap Ent.mk?).Nodup from hnd)
    have hold : ∀ k, k ≠ D → ({ c.w with heap := c.w.heap.setIfInBounds D (.deferred none) } : World).heap[k]? = c.w.heap[k]? := fun k hk => by
      show (c.w.heap.setIfInBounds D _)[k]? = _
      rw [Array.getElem?_setIfInBounds_ne (fun e => hk e.symm)]
    have hsz : ({ c.w with heap := c.w.heap.setIfInBounds D (.deferred none) } : World).heap.size = c.w.heap.size := by simp
    have hidle : ∀ k, ({ c.w with heap := c.w.heap.setIfInBounds D (.deferred none) } : World).heap[k]? = c.w.heap[k]? ∨ (c0.w.heap.size ≤ k ∧ ¬ c.owns k ∧ ∃ o, c.w.heap[k]? = some (.deferred o)) := fun k => by
      by_cases hk : k = D
      · subst hk; exact .inr ⟨hD1, hD3, _, hD2⟩
      · exact .inl (hold k hk)
    have hcells : ∀ (k : Nat) cs t fr, c.w.heap[k]? = some (Obj.cells cs t fr) → ({ c.w with heap := c.w.heap.setIfInBounds D (.deferred none) } : World).heap[k]? = c.w.heap[k]? := fun k cs t fr hk => by
      rcases hidle k with h | ⟨_, _, o, h⟩
      · exact h
      · rw [hk] at h; cases h
    have hst2 := hst.idle hsz fun k o hk => by
      rcases hidle k with h | ⟨_, _, d, h⟩
      · exact .inl (h.trans hk)
      · rw [hk] at h; cases h; exact .inr ⟨d, rfl⟩
    have hrel : ∀ a x, Rel c a x → Rel (c.to { c.w with heap := c.w.heap.setIfInBounds D (.deferred none) }) a x := fun a x hax => hax.idle hsz hcells
    refine QaY hF hro hrs hs0 es (c.to _) s m u (Ev.idle hst hev rfl rfl rfl hsz hidle) hst2 ⟨hout.h, hout.size, fun t => hrel _ _ (hout.tm t)⟩ hnd'.2 (fun e he => ?_) ?_ hnr H
    · have := hok e (by simp [he])
      cases e with
      | mark D' =>
        obtain ⟨g1, g2, g3⟩ := this
        have hne : D' ≠ D := fun h => hnd'.1 (by subst h; exact List.mem_filterMap.2 ⟨_, he, rfl⟩)
        exact ⟨g1, (hold D' hne).trans g2, g3⟩
      | call d x =>
        obtain ⟨caps, e, r⟩ := this
        exact ⟨caps, e, r.1, fun j a u h1 h2 => hrel _ _ (r.2 j a u h1 h2)⟩
    · cases m with
      | ret => exact hm
      | pan v b => obtain ⟨x, e, r⟩ := hm; exact ⟨x, e, hrel _ _ r⟩
  | .call d x :: es, c, s, m, u, hev, hst, hout, hnd, hok, hm, hnr, H => by
    obtain ⟨caps, htar, hargs⟩ := hok (.call d x) (by simp)
    obtain ⟨hcall, hbody⟩ := (show QbC P d.1 d.2 s.h m fun m' h' => QfM P rs c0.h Q (es.filterMap Ent.da) m'.settle ⟨s.tm, h'⟩ from H)
    simp only [List.map_cons, LeavesInM, Ent.dfr]
    refine ⟨hm.run, .inr ⟨fun hd => by simp [hF.depth] at hd, _, _, d.1, x.args ++ caps, htar, by rw [htar]; simp only [invoke, hcall], fun _ _ => hF.fn _, ?_⟩⟩
    refine (hbody F (n - 1) c _ u hF hro hst hout.h hargs hm).mono ?_
    rintro e u' w' ⟨y, m', c', rfl, hQ, hev', hst', rfl, hm'⟩
    refine QaY hF hro hrs hs0 es c' ⟨s.tm, c'.h⟩ m'.settle (Go.settle u') (Ev.trans hs0 hev hev') hst' ⟨rfl, hout.size, fun t => (hout.tm t).ev hst hev'⟩ hnd (fun e he => (hok e (by simp [he])).ev hst hev') hm'.settle (fun v h => ?_) hQ
    cases m' with
    | ret => cases h
    | pan v' b => cases b <;> cases h
/-- what a body that may defer calls owes -/
def Qjz (P : Program) (rs : List ResultVar) (h : AH) (Q : AOut → AH → Prop) : AExit → AS → List DA → Prop
  | .normal, s, ds | .ret, s, ds => QfM P rs h Q ds .ret s
  | .panic v, s, ds => QfM P rs h Q ds (.pan v false) s
  | .exit _, _, _ => False
theorem Qdb {P : Program} {f : FuncId} {fn : Func} {code : Code} {args : List AV} {h : AH} {Q : AOut → AH → Prop} (hf : P.funcs[f]? = some fn) (hb : fn.body = some code)
    (hcall : ∀ vals w, (callFunc f vals).run P w = .ok (.enter f vals) w) {N : Nat} (hN : fn.ntmps = N) {rs : List ResultVar} (hrs : fn.results.toList = rs) (hn : args.length ≤ N) (H : DefW P N code (Qjz P rs h Q) ⟨QC args, h⟩ []) : XG P f args h Q := by
  subst hN
  refine ⟨hcall, fun F n c vals hF hs hh hvals => Qae ?_⟩
  subst hh
  refine callsIn_of_wp_marks hf hb (hF.plain.fn f) ?_
  have hsr : SRd fn.ntmps c.w.heap.size c ⟨QC args, c.h⟩ { tmps := vals ++ Array.replicate (fn.ntmps - vals.size) undef, defers := [] } [] := by
    refine ⟨rfl, by have := hvals.1; simp; omega, Nat.le_refl _, ⟨[], rfl, rfl, List.nodup_nil, fun e h => by cases h⟩, fun t => ?_⟩
    simp only [QC]
    rw [Array.getD_eq_getD_getElem?, Array.getElem?_append, List.getD_eq_getElem?_getD]
    have hsz := hvals.1
    by_cases ht : t < vals.size
    · rw [if_pos ht]
      obtain ⟨u, hu⟩ : ∃ u, vals[t]? = some u := ⟨_, Array.getElem?_eq_getElem ht⟩
      obtain ⟨a, ha⟩ : ∃ a, args[t]? = some a := ⟨_, List.getElem?_eq_getElem (by omega)⟩
      rw [hu, ha]
      exact hvals.2 t a u ha hu
    · rw [if_neg ht, List.getElem?_eq_none (by omega), Array.getElem?_replicate]
      split
      · exact .v _
      · exact .v _
  refine H F.plain n c.w.heap.size c _ hF.plain rfl hs hsr _ ?_
  intro e s' ds' c' a' e' hQ hev hst hr hex
  obtain ⟨es, e1, e2, e3, e4⟩ := hr.defs
  subst e2
  have hout : Out fn.ntmps c' s' a'.tmps := ⟨hr.h, hr.size, hr.tm⟩
  have key := fun (m : AMode) (u : FrameMode) (hm : MdC c' m u) (hnr : ∀ v, m ≠ .pan v true) H => e1 ▸ QaY (P := P) hF.plain rfl (n := n) (fn := fn) (tmps := a'.tmps) hrs (Q := Q) hs es c' s' m u hev hst hout e3 e4 hm hnr H
  cases e with
  | normal => cases hex; exact key .ret .returning rfl (fun v h => by cases h) hQ
  | ret => cases hex; exact key .ret .returning rfl (fun v h => by cases h) hQ
  | panic av =>
    obtain ⟨x, rfl, hx⟩ := hex
    exact key (.pan av false) _ ⟨x, rfl, hx⟩ (fun v h => by cases h) hQ
  | exit id => exact hQ.elim
/-- a deferred call's frame takes its marks off -/
theorem QaQ {P : Program} {F : Fence} {n : Nat} {fn : Func} {tmps : Array Value} {R : Ending → World → Prop} : ∀ (ds : List Deferred) (u : FrameMode) (w : World) (fr : Frame)
    (cs : List Frame), fr.mode = u → fr.defers = ds → fr.tmps = tmps → P.funcs[fr.fn]? = some fn → fr.kind = .deferred → F.fn fr.fn → F.room (cs.length + 1 + n) → LeavesInM F n P fn tmps R ds u w →
    ∃ e w' fr', R e w' ∧ ComesIn (Machine.fenced P F) P (lone fr cs w) (lone fr' cs w') e ∧ fr'.fn = fr.fn ∧ fr'.kind = .deferred ∧ fr'.going P w' e := by
  intro ds
  induction ds with
  | nil =>
    intro u w fr cs hu hd ht hf hk _ _ h
    cases u with
    | run => exact h.elim
    | returning =>
      obtain ⟨v, hr, hR⟩ := h
      exact ⟨.returned v, w, fr, hR, StepsIn.refl _, rfl, hk, hu, hd, fn, hf, ht ▸ hr⟩
    | panicking chain => exact ⟨.panicked chain, w, fr, h, StepsIn.refl _, rfl, hk, hu, hd, fn, hf⟩
  | cons d ds ih =>
    intro u w fr cs hu hd ht hf hk hb hroom h
    obtain ⟨hrun, h⟩ := h
    rcases h with ⟨r, w', htar, htake, hrest⟩ | ⟨hn, fv, cap, f, args, htar, hinv, hlead, hFf, hcall⟩
    · have h1 := step_collected (cs := cs) (hu ▸ hrun) hd htar htake
      have i1 : (lone fr cs w).fenced P F := fenced_out hb hroom (hu ▸ hrun) hd (fun g hg => by rw [htar] at hg; simp [Target.leads] at hg)
      obtain ⟨e', w'', fr', hR', hs', hfn', hl'⟩ := ih u w' { fr with defers := [] ++ ds } cs hu rfl ht hf hk hb hroom hrest
      exact ⟨e', w'', fr', hR', ComesIn.of_steps (.one i1 h1) hs', hfn', hl'⟩
    · have h1 := step_defer (cs := cs) (hu ▸ hrun) hd htar hinv
      have i1 : (lone fr cs w).fenced P F := fenced_out hb hroom (hu ▸ hrun) hd hlead
      have hroom' : F.room (({ fr with defers := ds } :: cs).length + 1 + (n - 1)) := Fence.room_enter hroom hn
      obtain ⟨e, u', w', frX, hR, hsteps, hkX, hfX, hgo⟩ := hcall { fr with defers := ds } cs hu hroom'
      cases e with
      | outgrown => exact ⟨.outgrown, w', fr, hR, Outgrown.of_steps (.one h1) hsteps, rfl, hk, trivial⟩
      | returned v =>
        have i2 : (lone frX ({ { fr with defers := ds } with mode := u' } :: cs) w').fenced P F := fenced_going (n := n - 1) (hfX ▸ hFf) hroom' hgo
        have h2 := step_going_returned (c := { { fr with defers := ds } with mode := u' }) (cs := cs) hkX hgo
        obtain ⟨e', w'', fr', hR', hs', hfn', hl'⟩ := ih (Go.settle u') w' { { { fr with defers := ds } with mode := u' } with mode := Go.settle u' } cs rfl rfl ht hf hk hb hroom hR
        exact ⟨e', w'', fr', hR', ComesIn.of_steps (.head i1 h1 (StepsIn.trans hsteps (.one i2 h2))) hs', hfn', hl'⟩
      | panicked chain =>
        have i2 : (lone frX ({ { fr with defers := ds } with mode := u' } :: cs) w').fenced P F := fenced_going (n := n - 1) (hfX ▸ hFf) hroom' hgo
        have h2 := step_going_panicked (c := { { fr with defers := ds } with mode := u' }) (cs := cs) hgo
        obtain ⟨e', w'', fr', hR', hs', hfn', hl'⟩ := ih (raised u' chain) w' { { { fr with defers := ds } with mode := u' } with mode := raised u' chain } cs rfl rfl ht hf hk hb hroom hR
        exact ⟨e', w'', fr', hR', ComesIn.of_steps (.head i1 h1 (StepsIn.trans hsteps (.one i2 h2))) hs', hfn', hl'⟩
theorem Qa3 {P : Program} {F : Fence} {n : Nat} {f : FuncId} {fn : Func} {c : Code} {args : Array Value} {u : FrameMode} {w : World} {R : Ending → World → Prop}
    (hf : P.funcs[f]? = some fn) (hb : fn.body = some c) (hF : F.fn f)
    (h : c.wpIn F n P (bodyPostM F n P fn R) { tmps := args ++ Array.replicate (fn.ntmps - args.size) undef, defers := [] } w) (hro : F.round = none) :
    CallsDIn F n P f args u w fun e u' w' => u' = u ∧ R e w' := by
  refine ⟨hF, fun c₀ cs hu hr => ?_⟩
  let b : Frame := { (default : Frame) with fn := f, kind := .deferred, roundOf := none }
  have henter : Frame.enter P f args .deferred =
      b.atR { tmps := args ++ Array.replicate (fn.ntmps - args.size) undef, defers := [] } [.code c] := by
    simp [Frame.enter, Frame.atR, hf, hb, b]
  have hc : ({ c₀ with mode := u } : Frame) = c₀ := by subst hu; rfl
  obtain ⟨e, a', w', hq, harr⟩ := h b [] (c₀ :: cs) hro.symm hF hr
  rw [← henter] at harr
  cases e with
  | normal =>
    obtain ⟨e', w'', fr', hR, hs, hfn, hk, hl⟩ := QaQ a'.defers .returning w' { b.atR a' [] with mode := .returning } (c₀ :: cs) rfl rfl rfl hf rfl hF hr hq
    exact ⟨e', u, w'', fr', ⟨rfl, hR⟩, (by rw [hc]; exact ComesIn.of_steps (StepsIn.trans harr (.one (fenced_calm (fr := b.atR a' []) hF hr rfl) (stepR_end rfl))) hs), hk, hfn, hl⟩
  | ret =>
    obtain ⟨todo, hs₀⟩ := harr.1 rfl
    obtain ⟨e', w'', fr', hR, hs, hfn, hk, hl⟩ := QaQ a'.defers .returning w' { b.atR a' todo with mode := .returning } (c₀ :: cs) rfl rfl rfl hf rfl hF hr hq
    exact ⟨e', u, w'', fr', ⟨rfl, hR⟩, (by rw [hc]; exact ComesIn.of_steps hs₀ hs), hk, hfn, hl⟩
  | panic chain =>
    obtain ⟨todo, hs₀⟩ := harr
    obtain ⟨e', w'', fr', hR, hs, hfn, hk, hl⟩ := QaQ a'.defers (.panicking chain) w' { b.atR a' todo with mode := .panicking chain } (c₀ :: cs) rfl rfl rfl hf rfl hF hr hq
    exact ⟨e', u, w'', fr', ⟨rfl, hR⟩, (by rw [hc]; exact ComesIn.of_steps hs₀ hs), hk, hfn, hl⟩
  | exit id => exact hq.elim
  | goto l => exact hq.elim
  | outgrown => exact ⟨.outgrown, u, w', b, ⟨rfl, hq⟩, harr.resolve_left (by simp [b]), rfl, rfl, trivial⟩
/-- a function that neither defers nor recovers (or that defers calls of its own), asx a deferred call -/
theorem QcP {P : Program} {f : FuncId} {fn : Func} {code : Code} {args : List AV} {h : AH} {Q : AH → Prop} (hf : P.funcs[f]? = some fn) (hb : fn.body = some code)
    (hcall : ∀ vals w, (callFunc f vals).run P w = .ok (.enter f vals) w) {N : Nat} (hN : fn.ntmps = N) {rs : List ResultVar} (hrs : fn.results.toList = rs) (hn : args.length ≤ N)
    (H : DefW P N code (Qjz P rs h fun o h' => (∃ r, o = .ret r) ∧ Q h') ⟨QC args, h⟩ []) (m : AMode) : QbC P f args h m fun m' h' => m' = m ∧ Q h' := by
  subst hN
  refine ⟨hcall, fun F n c vals u hF hro hs hh hvals hm => ?_⟩
  subst hh
  refine (Qa3 (R := fun e w' => ∃ (o : AOut) (c' : Cx), ((∃ r, o = AOut.ret r) ∧ Q c'.h) ∧ Ev c c' ∧ St c' ∧ c'.w = w' ∧ EndC c' o e) hf hb (hF.fn f) ?_ hro).mono ?_
  · have hsr : SRd fn.ntmps c.w.heap.size c ⟨QC args, c.h⟩ { tmps := vals ++ Array.replicate (fn.ntmps - vals.size) undef, defers := [] } [] := by
      refine ⟨rfl, by have := hvals.1; simp; omega, Nat.le_refl _, ⟨[], rfl, rfl, List.nodup_nil, fun e h => by cases h⟩, fun t => ?_⟩
      simp only [QC]
      rw [Array.getD_eq_getD_getElem?, Array.getElem?_append, List.getD_eq_getElem?_getD]
      have hsz := hvals.1
      by_cases ht : t < vals.size
      · rw [if_pos ht]
        obtain ⟨u, hu⟩ : ∃ u, vals[t]? = some u := ⟨_, Array.getElem?_eq_getElem ht⟩
        obtain ⟨a, ha⟩ : ∃ a, args[t]? = some a := ⟨_, List.getElem?_eq_getElem (by omega)⟩
        rw [hu, ha]
        exact hvals.2 t a u ha hu
      · rw [if_neg ht, List.getElem?_eq_none (by omega), Array.getElem?_replicate]
        split
        · exact .v _
        · exact .v _
    refine H F n c.w.heap.size c _ hF hro hs hsr _ ?_
    intro e s' ds' c' a' e' hQ hev hst hr hex
    obtain ⟨es, e1, e2, e3, e4⟩ := hr.defs
    subst e2
    have hout : Out fn.ntmps c' s' a'.tmps := ⟨hr.h, hr.size, hr.tm⟩
    have key := fun (m : AMode) (u : FrameMode) (hm : MdC c' m u) (hnr : ∀ v, m ≠ .pan v true) H => e1 ▸ QaY (P := P) hF hro (n := n) (fn := fn) (tmps := a'.tmps) hrs (Q := fun o h' => (∃ r, o = AOut.ret r) ∧ Q h') hs es c' s' m u hev hst hout e3 e4 hm hnr H
    cases e with
    | normal => cases hex; exact key .ret .returning rfl (fun v h => by cases h) hQ
    | ret => cases hex; exact key .ret .returning rfl (fun v h => by cases h) hQ
    | panic av =>
      obtain ⟨x, rfl, hx⟩ := hex
      exact key (.pan av false) _ ⟨x, rfl, hx⟩ (fun v h => by cases h) hQ
    | exit id => exact hQ.elim
  · rintro e u' w' ⟨rfl, o, c', ⟨⟨r, rfl⟩, hQ⟩, hev, hst', rfl, x, rfl, hx⟩
    exact ⟨x, m, c', rfl, ⟨rfl, hQ⟩, hev, hst', rfl, hm.ev hs hev⟩
theorem Qc9 {P : Program} {f : FuncId} {fn : Func} {code : Code} {args : List AV} {h : AH} {Q : AH → Prop} (hf : P.funcs[f]? = some fn) (hb : fn.body = some code)
    (hcall : ∀ vals w, (callFunc f vals).run P w = .ok (.enter f vals) w) {N : Nat} (hN : fn.ntmps = N) {rs : List ResultVar} (hrs : fn.results.toList = rs) (hn : args.length ≤ N)
    (H : YE P N code (QO P rs h fun o h' => (∃ r, o = .ret r) ∧ Q h') ⟨QC args, h⟩) (m : AMode) : QbC P f args h m fun m' h' => m' = m ∧ Q h' :=
  QcP hf hb hcall hN hrs hn (Qbz (H.mono fun e s hq => by cases e <;> exact hq)) m
end Go.Proofs.YtenheconhibonaaGreatDoor.Ab
set_option linter.unusedSimpArgs false
set_option linter.unusedVariables false
set_option maxHeartbeats 4000000
set_option maxRecDepth 4000
namespace Go.Proofs.YtenheconhibonaaGreatDoor.Ab
open Go.Proofs
def HB (h : AH) (i j : Nat) (u : Bool) (tx : ByteArray) : AH := hs2 h i (bw 138 i j u tx) j (.grow 5 1 tx.size)
theorem wTy : BTy 138 := .inr rfl
abbrev lpa : ByteArray := { data := #[40] }
abbrev rpa : ByteArray := { data := #[41] }
def encB (b : Bool) (x : ByteArray) : ByteArray := if b then lpa ++ x ++ rpa else x
theorem QbC.mono {P : Program} {f : FuncId} {args : List AV} {h : AH} {m : AMode} {Q Q' : AMode → AH → Prop} (H : QbC P f args h m Q) (hq : ∀ m' h', Q m' h' → Q' m' h') : QbC P f args h m Q' :=
  ⟨H.1, fun F n c vals u hF hro hs hh hvals hm => (H.2 F n c vals u hF hro hs hh hvals hm).mono fun e u' w' ⟨x, m', c', h1, h2, h3⟩ => ⟨x, m', c', h1, hq _ _ h2, h3⟩⟩
theorem Qeh {h : AH} {i j : Nat} (hi : i < h.length) (hj : j < h.length) (hij : i ≠ j) (u : Bool) (tx : ByteArray) (b : UInt8) (hs : tx.size < 140737488355328) (m : AMode) :
    QbC Tryz.prog 149 [.ptr i 0 0, .v (.int .u8 (b.toNat : Nat))] (HB h i j u tx) m fun m' h' => m' = m ∧ h' = HB h i j true (tx ++ { data := #[b] }) := by
  have f1 := fun x y => YY h i x j y
  have f2 := fun x y => Y3 (h := h) hi hij x y
  have f3 := fun x y z => Qcl (h := h) (i := i) (j := j) hij x y z
  have f5 := fun x y z => Qcm (h := h) (i := i) (j := j) x y z
  have f7 := fun x y => QaU (h := h) (i := i) hj x y
  have c1 := Qao wTy hij u tx h hi hj
  have e1 : Xk (tx ++ { data := #[b] }) = Xk tx ++ [.v (.int .u8 (b.toNat : Nat))] := Z1 tx _
  have e2 : (tx ++ ({ data := #[b] } : ByteArray)).size = tx.size + 1 := Qu _ _
  have hs' : tx.size + 1 ≤ 140737488355328 := hs
  have hm : tx.size + 1 ≤ maxLen := by simp only [maxLen]; omega
  refine Qc9 Tryz.func149 rfl Tryz.call149 Tryz.ntmps149 (congrArg Array.toList Tryz.results149) (by simp) ?_ m
  rw [HB, HB, bw1, e1, e2]
  repeat (first | ((first | (with_reducible (first | refine Qa fun K E hK hE => ?_ | refine FunW.ret (FunW.call c1) ?_))); simp -implicitDefEqProofs only [Qf, Qb, Qi, OpW, QW, aop, undef, AS.ev, Qc, QV, Xs, Qm, QC, List.getD_cons_zero, List.getD_cons_succ, AV.Qj3, Qr, Q3, Xp, QD, XT, List.all_cons, List.all_nil, QB, QH, Bool.and_self, ↓reduceIte, List.length_cons, List.length_nil, Nat.reduceAdd, Nat.reduceLT, Nat.reduceLeDiff, Nat.reduceEqDiff, Nat.zero_add, and_self, Ql, QI, QJ, Xb, QZ, Q5, YD, Zd, List.getElem?_cons_zero, List.getElem?_cons_succ, List.set_cons_zero, Option.map_some, List.map_cons, List.map_nil, List.cons_append, List.nil_append, List.append_nil, List.take_succ_cons, List.take_zero, List.drop_succ_cons, List.drop_zero, beq_self_eq_true, Bool.false_eq_true, rng1, Xa, Nat.reducePow, zi5, ti72, ei72, ai72, Qfg, Q0, f2, f3, f5, f7, bw1, X3, hm, hs', Nat.mul_one]) | (with_reducible refine Qo ?_) | ((with_reducible refine hK _ ?_); clear hK))
  simp -implicitDefEqProofs only [Qm, ↓reduceIte, Option.some.injEq, QO, Qp, Qv, exists_eq_left']
  exact .inr ⟨⟨_, rfl⟩, rfl⟩
theorem QaE {h : AH} {i j : Nat} (hi : i < h.length) (hj : j < h.length) (hij : i ≠ j) (need u : Bool) (tx body : ByteArray) {fv r : AV} (hs : tx.size + (encB need body).size ≤ 140737488355328)
    (hw : FunW Tryz.prog fv [] (HB h i j (u || need) (if need then tx ++ lpa else tx)) fun o h' => o = .ret r ∧ h' = HB h i j true ((if need then tx ++ lpa else tx) ++ body)) :
    XG Tryz.prog 122 [.ptr i 0 0, .b need, fv] (HB h i j u tx) fun o h' => o = .ret (.tup []) ∧ h' = HB h i j true (tx ++ encB need body) := by
  have f2 := fun x y => Y3 (h := h) hi hij x y
  have e0 : ∀ u tx, HB h i j u tx = hs2 h i (bw 138 i j u tx) j (.grow 5 1 tx.size) := fun _ _ => rfl
  have f0 : ∀ u tx, (HB h i j u tx)[i]? = some (bw 138 i j u tx) := fun u tx => f2 _ _
  have f1 : ∀ u tx, bw 138 i j u tx = .cells 138 2 [.agg [if u then .ptr i 0 0 else .v (.pointer none), .sl 1 (Xk tx) (some j)]] := fun _ _ => rfl
  cases need
  · rw [Bool.or_false, if_neg (by decide)] at hw
    refine Qg Tryz.func122 rfl Tryz.call122 Tryz.ntmps122 (congrArg Array.toList Tryz.results122) (by simp) ?_
    repeat (first | ((first | (with_reducible (first | refine Qa fun K E hK hE => ?_ | refine Qn fun K E hK hE => ?_ | refine FunW.ret hw ?_))); simp -implicitDefEqProofs only [Qf, Qb, Qi, OpW, QW, aop, undef, AS.ev, Qc, Qm, QC, List.getD_cons_zero, List.getD_cons_succ, ↓reduceIte, Nat.reduceLT, Nat.reduceEqDiff, List.map_nil]) | (with_reducible (first | refine Qh fun K hK => ?_ | refine Qt ?_ | refine Qe ?_)) | ((with_reducible refine hK _ ?_); clear hK) | (refine Qj rfl ?_; simp only [↓reduceIte, Bool.false_eq_true]))
    simp -implicitDefEqProofs only [Option.map_some, Option.some.injEq, List.mapM_nil, Option.pure_def, Option.map_some, QO, Qp, exists_eq_left']
    exact .inr ⟨rfl, rfl⟩
  · rw [Bool.or_true, if_pos rfl] at hw
    have hsz : tx.size + body.size + 2 ≤ 140737488355328 := by
      rw [encB, if_pos rfl, Qu, Qu] at hs
      have : lpa.size = 1 := rfl
      have : rpa.size = 1 := rfl
      omega
    have c1 := Qec wTy hij u tx 40 (by omega) h hi hj
    rw [← e0, ← e0, show ((UInt8.toNat 40 : Nat) : Int) = 40 from rfl] at c1
    refine Qdb Tryz.func122 rfl Tryz.call122 Tryz.ntmps122 (congrArg Array.toList Tryz.results122) (by simp) ?_
    refine QdA (QdA (Qbz ?_))
    repeat (first | (((with_reducible refine Qn fun K E hK hE => ?_)); simp -implicitDefEqProofs only [Qf, Qb, Qi, OpW, aop, undef, AS.ev, Qc, QC, List.getD_cons_zero, List.getD_cons_succ, Nat.reduceLT]) | ((with_reducible refine hK _ ?_); clear hK))
    show DefW _ _ _ _ _ _
    refine QhO rfl (QdA (Qbz ?_))
    repeat (first | ((first | (with_reducible (first | refine Qn fun K E hK hE => ?_ | refine FunW.ret (FunW.call c1) ?_))); simp -implicitDefEqProofs only [Qf, Qb, Qi, OpW, QW, aop, undef, AS.ev, Qc, Qq, Qm, QC, List.getD_cons_zero, ↓reduceIte, Nat.reduceLT, Nat.reduceEqDiff, Nat.add_zero, Ql, Option.map_some, List.map_cons, List.map_nil, Yf, Q0, f0, f1]) | ((with_reducible refine hK _ ?_); clear hK))
    show DefW _ _ _ _ _ _
    refine QfQ 3 rfl rfl rfl ?_
    simp -implicitDefEqProofs only [Qf, Qb, Qi, OpW, aop, undef, AS.ev, Qc, QV, Qq, Qm, QC, List.getD_cons_zero, ↓reduceIte, Nat.reduceAdd, Nat.reduceLT, Nat.reduceEqDiff, Nat.add_zero, true_and, Ql, Option.map_some, List.map_cons, List.map_nil, List.take_succ_cons, List.take_zero, List.drop_succ_cons, List.drop_zero, Yf, Q0, f0, f1]
    refine ⟨_, _, _, rfl, ?_⟩
    show DefW _ _ _ _ _ _
    refine Qbz ?_
    repeat (first | ((first | (with_reducible (first | refine Qn fun K E hK hE => ?_ | refine FunW.ret hw ?_))); simp -implicitDefEqProofs only [Qf, Qb, Qi, OpW, QW, aop, undef, AS.ev, Qc, Qm, QC, List.getD_cons_zero, List.getD_cons_succ, ↓reduceIte, Nat.reduceLT, Nat.reduceEqDiff, List.map_nil]) | ((with_reducible refine hK _ ?_); clear hK))
    simp only [Qjz, QfM]
    refine QbC.mono (Qeh hi hj hij true ((tx ++ lpa) ++ body) 41 (by rw [Qu, Qu]; have : lpa.size = 1 := rfl; omega) .ret) ?_
    rintro m' h' ⟨rfl, rfl⟩
    simp only [AMode.settle, QfM]
    simp -implicitDefEqProofs only [Option.map_some, Option.some.injEq, List.mapM_nil, Option.pure_def, Option.map_some, QO, Qp, exists_eq_left']
    exact .inr ⟨rfl, by rw [encB, if_pos rfl, ByteArray.append_assoc, ByteArray.append_assoc, ByteArray.append_assoc]⟩
end Go.Proofs.YtenheconhibonaaGreatDoor.Ab
set_option linter.unusedSimpArgs false
set_option linter.unusedVariables false
set_option maxHeartbeats 4000000
set_option maxRecDepth 4000
namespace Go.Proofs.YtenheconhibonaaGreatDoor.Ab
open Go.Proofs
abbrev Y0 : ByteArray := { data := #[44, 32] }
def binT (o : Int) (n : ByteArray) (oa oc : Int) (x y : ByteArray) : ByteArray := (encB ((oa == 1) && (o == 2)) x ++ (({ data := #[32] } : ByteArray) ++ n ++ { data := #[32] })) ++ encB ((oc != 0) && ((oc == 1) || (o == 2))) y
def XP : Bool → List ByteArray → ByteArray
  | _, [] => .empty
  | f, x :: r => (if f then x else Y0 ++ x) ++ XP false r
def funT (n : ByteArray) (l : List ByteArray) : ByteArray := n ++ encB (decide (0 < l.length)) (XP true l)
mutual
def T.txt : T → ByteArray
  | .mk k i n l => if (T.mk k i n l).oper ≠ 0 then (match l.map T.oper, txts l with
      | [oa, oc], [x, y] => binT (ofB n) n oa oc x y
      | _, _ => .empty) else
    if k = 0 then decZ i else if k = 1 then vOf (decN i.toNat) else funT n (txts l)
def txts : List T → List ByteArray
  | [] => []
  | t :: l => t.txt :: txts l
end
theorem QjK (l : List T) : txts l = l.map T.txt := by
  induction l with
  | nil => rfl
  | cons t l ih => rw [txts, ih]; rfl
mutual
def T.lex : T → Prop
  | .mk k i n l => (k = 0 → -9223372036854775807 ≤ i ∧ i ≤ 9223372036854775807) ∧ (k = 1 → 0 ≤ i ∧ i ≤ 1048576) ∧ l.length ≤ 1000000 ∧ n.size ≤ 1000000 ∧ lexL l
def lexL : List T → Prop
  | [] => True
  | t :: l => t.lex ∧ lexL l
end
section
variable {h : AH} {i j : Nat} (hi : i < h.length) (hj : j < h.length) (hij : i ≠ j)
theorem Qdy (h : AH) (i j : Nat) (u : Bool) (tx : ByteArray) : (HB h i j u tx).length = h.length := YY _ _ _ _ _
theorem Qcr (h : AH) (i j : Nat) (u : Bool) (tx : ByteArray) (L : AH) : (HB h i j u tx ++ L)[h.length]? = L[0]? := Qi7 _ _ _
theorem Qe7 (h : AH) (i j : Nat) (u : Bool) (tx : ByteArray) (L : AH) (k : Nat) : (HB h i j u tx ++ L)[h.length + k]? = L[k]? := Qii _ _ _ _
theorem Qi5 (h : AH) (i j : Nat) (u : Bool) (tx : ByteArray) (z : AB) (L : AH) : (HB h i j u tx ++ L).set h.length z = HB h i j u tx ++ L.set 0 z := Qhq _ _ _ _
theorem QjF (h : AH) (i j : Nat) (u : Bool) (tx : ByteArray) (z : AB) (L : AH) (k : Nat) : (HB h i j u tx ++ L).set (h.length + k) z = HB h i j u tx ++ L.set k z := QgI _ _ _ _ _
include hi hj in
theorem Qgj (u : Bool) (tx : ByteArray) (L : AH) : HB (h ++ L) i j u tx = HB h i j u tx ++ L := QdF hi hj _ _ _
include hi hij in
theorem Qf5 (u : Bool) (tx : ByteArray) : (HB h i j u tx)[i]? = some (.cells 138 2 [.agg [if u then .ptr i 0 0 else .v (.pointer none), .sl 1 (Xk tx) (some j)]]) := Y3 hi hij _ _
include hi hij in
theorem Qci (u : Bool) (tx : ByteArray) (L : AH) : (HB h i j u tx ++ L)[i]? = some (.cells 138 2 [.agg [if u then .ptr i 0 0 else .v (.pointer none), .sl 1 (Xk tx) (some j)]]) := Qe3 hi hij _ _ _
theorem QjT {u u' : Bool} {tx tx' : ByteArray} (hij : i ≠ j) (H : Xu (HB h i j u tx)) : Xu (HB h i j u' tx') := by
  obtain ⟨k, ty, fr, e⟩ := H
  refine ⟨k, ty, fr, ?_⟩
  have hk := QK e
  rw [Qdy] at hk
  by_cases h1 : i = k
  · subst h1; rw [HB, Y3 hk hij] at e; cases e
  · by_cases h2 : j = k
    · subst h2; rw [HB, QaU hk] at e; cases e
    · rw [HB, Yb _ _ h1 h2] at e ⊢; exact e
theorem XW {u u' : Bool} {tx tx' : ByteArray} {L : AH} {r r' : AV} {Q : AV → AH → Prop} (hi : i < h.length) (hj : j < h.length) (hij : i ≠ j) (hf : Frz (HB h i j u' tx' ++ L) h.length r r') (hq : Q r' (HB h i j u' tx')) : Leaves (HB h i j u tx) (HB h i j u' tx' ++ L) r Q :=
  QgY hij (Qi0 hi hj) trivial hf hq
end
/-- it writes a text -/
def Wri (f : FuncId) (args : List AV) (h : AH) (i j : Nat) (u : Bool) (tx add : ByteArray) : Prop :=
  XG Tryz.prog f args (HB h i j u tx) fun o h' => o = .ret (.tup []) ∧ h' = HB h i j true (tx ++ add)
theorem wstr {h : AH} {i j : Nat} (hi : i < h.length) (hj : j < h.length) (hij : i ≠ j) (u : Bool) (tx s : ByteArray) (hs : tx.size + s.size ≤ 140737488355328) :
    XG Tryz.prog 35 [.ptr i 0 0, .v (.string s)] (HB h i j u tx) fun o h' => o = .ret (.tup [.i s.size, .v .nilIface]) ∧ h' = HB h i j true (tx ++ s) :=
  QaH wTy hij u tx s hs h hi hj
theorem Zw {p : Prop} (h : 2 = 3) : p := by cases h
theorem Qip {G G' : AH} {p q i : Nat} {t a : T} {r : AV} (hp : G[p]? = some (.cells 134 1 [.ptr i 0 0])) (hq : G[q]? = some (.cells 69 4 [t.av])) (ha : t.args[0]? = some a)
    (H : XG Tryz.prog 86 [.ptr i 0 0, a.av] G fun o h' => o = .ret r ∧ h' = G') :
    XG Tryz.prog 125 [.ptr p 0 0, .ptr q 0 0] G fun o h' => o = .ret (.tup []) ∧ h' = G' := by
  have e1 : t.av = .agg [.i t.kind, .i t.int, .v (.string t.name), .sl 4 (avs t.args) none] := by cases t; rfl
  have hlt : 0 < t.args.length := QK ha
  have hz : (0 : Int) < t.args.length := by omega
  have hg := Zc hlt
  have ea : t.args[0] = a := by rw [List.getElem?_eq_getElem hlt] at ha; injection ha
  rw [ea] at hg
  rw [e1] at hq
  refine Qg Tryz.func125 rfl Tryz.call125 Tryz.ntmps125 (congrArg Array.toList Tryz.results125) (by simp) ?_
  repeat (first | ((first | (with_reducible refine Xz (FunW.call H) Zw ?_) | (refine Xv (id := 0) [(0, 0), (1, 0), (2, 0), (3, 0), (4, 0), (5, 2)] mixed (by kernel_rfl) fun K hK => ?_)); simp -implicitDefEqProofs only [Xc, Q7, Xn, Qi, aop, undef, AS.ev, Qc, Qq, Qm, QC, List.getD_cons_zero, List.getD_cons_succ, Qr, Xd, ↓reduceIte, List.length_cons, List.length_nil, Nat.reduceAdd, Nat.reduceLT, Nat.reduceLeDiff, Nat.reduceEqDiff, Nat.zero_add, and_self, Ql, QI, QJ, QL, List.getElem?_cons_zero, List.getElem?_cons_succ, Option.map_some, List.getElem?_toArray, List.map_cons, List.map_nil, Int.toNat_zero, T.Qj2, T.Qj4, QG, ti44, ei44, ti69, XL, Z4, Int.le_refl, hp, hq, hz, hg, QG, T.Qj4, T.Qj2]) | ((with_reducible refine hK _ ?_); clear hK))
  simp -implicitDefEqProofs only [Option.map_some, Option.some.injEq, List.mapM_nil, Option.pure_def, Option.map_some, QO, Qp, exists_eq_left']
  exact .inr ⟨rfl, rfl⟩
theorem QhK {G G' : AH} {p q i : Nat} {t a : T} {r : AV} (hp : G[p]? = some (.cells 134 1 [.ptr i 0 0])) (hq : G[q]? = some (.cells 69 4 [t.av])) (ha : t.args[1]? = some a)
    (H : XG Tryz.prog 86 [.ptr i 0 0, a.av] G fun o h' => o = .ret r ∧ h' = G') :
    XG Tryz.prog 126 [.ptr p 0 0, .ptr q 0 0] G fun o h' => o = .ret (.tup []) ∧ h' = G' := by
  have e1 : t.av = .agg [.i t.kind, .i t.int, .v (.string t.name), .sl 4 (avs t.args) none] := by cases t; rfl
  have hlt : 1 < t.args.length := QK ha
  have hz : (1 : Int) < t.args.length := by omega
  have z1 : (0 : Int) ≤ 1 := by decide
  have hg := Zc hlt
  have ea : t.args[1] = a := by rw [List.getElem?_eq_getElem hlt] at ha; injection ha
  rw [ea] at hg
  rw [e1] at hq
  refine Qg Tryz.func126 rfl Tryz.call126 Tryz.ntmps126 (congrArg Array.toList Tryz.results126) (by simp) ?_
  repeat (first | ((first | (with_reducible refine Xz (FunW.call H) Zw ?_) | (refine Xv (id := 0) [(0, 0), (1, 0), (2, 0), (3, 0), (4, 0), (5, 2)] mixed (by kernel_rfl) fun K hK => ?_)); simp -implicitDefEqProofs only [Xc, Q7, Xn, Qi, aop, undef, AS.ev, Qc, Qq, Qm, QC, List.getD_cons_zero, List.getD_cons_succ, Qr, Xd, ↓reduceIte, List.length_cons, List.length_nil, Nat.reduceAdd, Nat.reduceLT, Nat.reduceLeDiff, Nat.reduceEqDiff, Nat.zero_add, and_self, Ql, QI, QJ, QL, List.getElem?_cons_zero, List.getElem?_cons_succ, Option.map_some, List.getElem?_toArray, List.map_cons, List.map_nil, Int.toNat_one, T.Qj2, T.Qj4, QG, ti44, ei44, ti69, XL, Z4, hp, hq, hz, z1, hg, QG, T.Qj4, T.Qj2]) | ((with_reducible refine hK _ ?_); clear hK))
  simp -implicitDefEqProofs only [Option.map_some, Option.some.injEq, List.mapM_nil, Option.pure_def, Option.map_some, QO, Qp, exists_eq_left']
  exact .inr ⟨rfl, rfl⟩
theorem Qdf (f : Bool) (l : List ByteArray) : ∀ x r, l = x :: r → (XP f l).size = (if f then 0 else 2) + x.size + (XP false r).size := by
  rintro x r rfl
  rw [XP, Qu]
  cases f
  · simp only [Bool.false_eq_true, if_false, Qu]; have : Y0.size = 2 := rfl; omega
  · simp
theorem Qfv {h : AH} {i j : Nat} (hi : i < h.length) (hj : j < h.length) (hij : i ≠ j) (l : List T) {p q : Nat} (hp : p < h.length) (hq : q < h.length) (hpi : i ≠ p) (hpj : j ≠ p) (hqi : i ≠ q) (hqj : j ≠ q)
    (gp : h[p]? = some (.cells 134 1 [.ptr i 0 0])) (gq : h[q]? = some (.cells 44 1 [.sl 4 (avs l) none])) (hl : l.length ≤ 1000000)
    (ih : ∀ t ∈ l, ∀ (h : AH), i < h.length → j < h.length → Xu (HB h i j true (.empty)) → ∀ tx : ByteArray, tx.size + t.txt.size ≤ 140737488355328 → Wri 86 [.ptr i 0 0, t.av] h i j true tx t.txt)
    (hG : Xu (HB h i j true (.empty))) (tx : ByteArray) (hs : tx.size + (XP true (txts l)).size ≤ 140737488355328) :
    Wri 123 [.ptr q 0 0, .ptr p 0 0] h i j true tx (XP true (txts l)) := by
  have k0 : ∀ u tx L, (HB h i j u tx ++ L)[p]? = some (.cells 134 1 [.ptr i 0 0]) := fun u tx L => by
    rw [List.getElem?_append_left (by rw [Qdy]; exact hp), HB, Yb _ _ hpi hpj, gp]
  have k1 : ∀ u tx, (HB h i j u tx)[q]? = some (.cells 44 1 [.sl 4 (avs l) none]) := fun u tx => by
    rw [HB, Yb _ _ hqi hqj, gq]
  have f1 := Qdy h i j
  have f2 := fun u tx L => Qcr h i j u tx L
  have f3 := fun u tx L => Qe7 h i j u tx L
  have f4 := fun u tx z L => Qi5 h i j u tx z L
  have f5 := fun u tx z L => QjF h i j u tx z L
  have f6 := fun u tx L => Qci (h := h) hi hij u tx L
  refine Qg Tryz.func123 rfl Tryz.call123 Tryz.ntmps123 (congrArg Array.toList Tryz.results123) (by simp) ?_
  repeat (first | (((with_reducible refine Qa fun K E hK hE => ?_)); simp -implicitDefEqProofs only [Qf, Qb, Qi, OpW, aop, undef, AS.ev, Qc, Qq, Qm, QC, List.getD_cons_zero, Xp, ↓reduceIte, Nat.reduceLT, QI, QJ, aLen, List.getElem?_cons_zero, Option.map_some, goInt, QG, ti44, un44, k1, QG]) | (with_reducible refine Qk ?_) | ((with_reducible refine hK _ ?_); clear hK))
  obtain ⟨I, hI⟩ : ∃ I : Nat → AS → Prop, I = fun m' s => ∃ (k : Nat) (cur : ByteArray), m' = l.length - k ∧ k ≤ l.length ∧ cur ++ XP (decide (k = 0)) (txts (l.drop k)) = tx ++ XP true (txts l) ∧ s.tm 0 = .ptr q 0 0 ∧ s.tm 1 = .ptr p 0 0 ∧ s.tm 4 = .sl 4 (avs l) none ∧ s.tm 5 = .i l.length ∧ s.tm 6 = .i k ∧ (∃ L, s.h = HB h i j true cur ++ L) := ⟨_, rfl⟩; refine Q4 I ?_ (m := l.length) ?_
  · intro m' s hs; rw [hI] at hs; obtain ⟨tm, hp⟩ := s; dsimp only at hs; obtain ⟨k, cur, rfl, hk, he, t0, t1, t4, t5, t6, L, rfl⟩ := hs
    by_cases hlt : k < l.length
    · have hg := Zc hlt
      have z1 : (k : Int) < l.length := by omega
      have hsz : cur.size + (XP (decide (k = 0)) (txts (l.drop k))).size = tx.size + (XP true (txts l)).size := by rw [← Qu, he, Qu]
      have hd : txts (l.drop k) = (l[k]).txt :: txts (l.drop (k + 1)) := by rw [List.drop_eq_getElem_cons hlt]; rfl
      have hcm : Y0.size = 2 := rfl
      rw [hd, XP, Qu] at hsz
      rw [hd, XP] at he
      have gapp := fun (u : Bool) (tx : ByteArray) (L : AH) => Qgj (h := h) (i := i) (j := j) hi hj u tx L
      have glen : ∀ L : AH, i < (h ++ L).length ∧ j < (h ++ L).length := fun L => by rw [List.length_append]; omega
      by_cases hk0 : k = 0
      · rw [decide_eq_true hk0, if_pos rfl] at hsz he
        have z2 : ¬ (k : Int) > 0 := by omega
        have c := ih l[k] (List.getElem_mem hlt) (h ++ (L ++ [AB.cells 69 4 [l[k].av]])) (glen _).1 (glen _).2 (by rw [gapp]; exact HasG.app hG _) cur (by omega)
        rw [Wri, gapp, gapp] at c
        repeat (first | ((first | (with_reducible (first | refine Qa fun K E hK hE => ?_ | refine Qn fun K E hK hE => ?_ | refine FunW.ret (FunW.call c) ?_))); simp -implicitDefEqProofs only [Qf, Qb, Qi, OpW, QW, aop, undef, AS.ev, Qc, QV, Qq, Qm, AV.Qj3, Qr, Xd, QD, List.all_cons, List.all_nil, QB, Qw, QN, QH, Bool.and_self, ↓reduceIte, List.length_cons, List.length_nil, Nat.reduceAdd, Nat.reduceLT, Nat.reduceEqDiff, Nat.zero_add, and_self, QI, QJ, Xb, QZ, QL, aBin, QX, X0, hlen, happ, List.getElem?_cons_zero, List.set_cons_zero, Option.map_some, List.map_cons, List.map_nil, QY, Q6, Xj, decide_true, decide_false, Int.toNat_natCast, Int.natCast_nonneg, T.Qj2, T.Qj4, QG, ei44, ti69, zi69, Z4, t1, t4, t5, t6, z1, z2, hg, k0, f1, f3, f5, T.Qj4, T.Qj2]) | (with_reducible (first | refine Qh fun K hK => ?_ | refine Qk ?_ | refine Qt ?_ | refine Qe ?_ | refine Qs ?_)) | ((with_reducible refine hK _ ?_); clear hK) | (refine Qj rfl ?_; simp only [↓reduceIte, Bool.false_eq_true]))
        refine XE.mk (m' := l.length - (k + 1)) (by omega) ?_
        rw [hI]
        refine ⟨k + 1, cur ++ (l[k]).txt, rfl, hlt, ?_, t0, t1, t4, t5, ?_, _, rfl⟩
        · rw [decide_eq_false (Nat.succ_ne_zero k), ByteArray.append_assoc]; exact he
        · simp only [upd, ↓reduceIte]
          rw [Xf (by omega)]
      · rw [decide_eq_false hk0, if_neg (by decide), Qu] at hsz
        rw [decide_eq_false hk0, if_neg (by decide)] at he
        have z2 : (k : Int) > 0 := by omega
        have c1 := wstr (h := h ++ (L ++ [AB.cells 69 4 [l[k].av]])) (glen _).1 (glen _).2 hij true cur Y0 (by omega)
        rw [gapp, gapp] at c1
        have c := ih l[k] (List.getElem_mem hlt) (h ++ (L ++ [AB.cells 69 4 [l[k].av]])) (glen _).1 (glen _).2 (by rw [gapp]; exact HasG.app hG _) (cur ++ Y0) (by rw [Qu]; omega)
        rw [Wri, gapp, gapp] at c
        repeat (first | ((first | (with_reducible (first | refine Qa fun K E hK hE => ?_ | refine Qn fun K E hK hE => ?_ | refine FunW.ret (FunW.call c) ?_ | refine FunW.ret (FunW.call c1) ?_))); simp -implicitDefEqProofs only [Qf, Qb, Qi, OpW, QW, aop, undef, AS.ev, Qc, QV, Qq, QM, Qm, AV.Qj3, Qr, Xd, QD, List.all_cons, List.all_nil, QB, Qw, QN, QH, Bool.and_self, ↓reduceIte, List.length_cons, List.length_nil, Nat.reduceAdd, Nat.reduceLT, Nat.reduceEqDiff, Nat.zero_add, Nat.add_zero, and_self, Ql, QI, QJ, Xb, QZ, QL, aBin, QX, X0, hlen, happ, List.getElem?_cons_zero, List.set_cons_zero, Option.map_some, List.map_cons, List.map_nil, QY, Q6, Xj, decide_true, Int.toNat_natCast, Int.natCast_nonneg, T.Qj2, T.Qj4, QG, ei44, ti69, zi69, Z4, Yf, Q0, t1, t4, t5, t6, z1, z2, hg, k0, f1, f3, f5, f6, T.Qj4, T.Qj2]) | (with_reducible (first | refine Qh fun K hK => ?_ | refine Qk ?_ | refine Qt ?_ | refine Qe ?_ | refine Qs ?_)) | ((with_reducible refine hK _ ?_); clear hK) | (refine Qj rfl ?_; simp only [↓reduceIte]))
        refine XE.mk (m' := l.length - (k + 1)) (by omega) ?_
        rw [hI]
        refine ⟨k + 1, (cur ++ Y0) ++ (l[k]).txt, rfl, hlt, ?_, t0, t1, t4, t5, ?_, _, rfl⟩
        · rw [decide_eq_false (Nat.succ_ne_zero k)]; simp only [ByteArray.append_assoc] at he ⊢; exact he
        · simp only [upd, ↓reduceIte]
          rw [Xf (by omega)]
    · have hkn : k = l.length := by omega
      subst hkn
      have z1 : ¬ ((l.length : Nat) : Int) < l.length := by omega
      rw [List.drop_length, txts, XP, ByteArray.append_empty] at he
      repeat (first | (((with_reducible refine Qa fun K E hK hE => ?_)); simp -implicitDefEqProofs only [Qf, Qb, Qi, OpW, aop, AS.ev, Qc, Nat.reduceLT, aBin, Option.map_some, QY, decide_false, t5, t6, z1]) | (with_reducible (first | refine Qh fun K hK => ?_ | refine Q1 ?_ | refine QS ?_ | refine QR ?_)) | ((with_reducible refine hK _ ?_); clear hK) | (refine Qj rfl ?_; simp only [↓reduceIte, Bool.false_eq_true]))
      simp -implicitDefEqProofs only [Option.map_some, Option.some.injEq, List.mapM_nil, Option.pure_def, Option.map_some, QO, Qp, exists_eq_left']
      exact XW hi hj hij (.keep (.tup _ fun x hx => by cases hx)) ⟨rfl, by rw [he]⟩
  · rw [hI]
    exact ⟨0, tx, rfl, by omega, rfl, rfl, rfl, rfl, rfl, rfl, [], (List.append_nil _).symm⟩
theorem Qcx (l : List T) : (txts l).length = l.length := by rw [QjK, List.length_map]
theorem ZL {h : AH} {i j : Nat} (hi : i < h.length) (hj : j < h.length) (hij : i ≠ j) (l : List T) (hl : l.length ≤ 1000000) (s : ByteArray)
    (ih : ∀ t ∈ l, ∀ (h : AH), i < h.length → j < h.length → Xu (HB h i j true (.empty)) → ∀ tx : ByteArray, tx.size + t.txt.size ≤ 140737488355328 → Wri 86 [.ptr i 0 0, t.av] h i j true tx t.txt)
    (hG : Xu (HB h i j true (.empty))) (u : Bool) (tx : ByteArray) (hs : tx.size + (funT s (txts l)).size ≤ 140737488355328) :
    Wri 84 [.ptr i 0 0, .v (.string s), .sl 4 (avs l) none] h i j u tx (funT s (txts l)) := by
  obtain ⟨L, hL⟩ : ∃ L : AH, L = [AB.cells 134 1 [.ptr i 0 0], AB.cells 44 1 [.sl 4 (avs l) none]] := ⟨_, rfl⟩
  have hlL : (h ++ L).length = h.length + 2 := by rw [hL]; simp
  have hi' : i < (h ++ L).length := by omega
  have hj' : j < (h ++ L).length := by omega
  have gapp := fun (u : Bool) (tx : ByteArray) (L : AH) => Qgj (h := h) (i := i) (j := j) hi hj u tx L
  have hsz : (funT s (txts l)).size = s.size + (encB (decide (0 < (txts l).length)) (XP true (txts l))).size := by rw [funT, Qu]
  rw [Qcx] at hsz
  obtain ⟨body, hbody⟩ : ∃ b, b = XP true (txts l) := ⟨_, rfl⟩
  rw [← hbody] at hsz
  have hbs : body.size ≤ (encB (decide (0 < l.length)) body).size := by
    rw [encB]; split
    · rw [Qu, Qu]; omega
    · exact Nat.le_refl _
  have c1 := wstr (h := h ++ L) hi' hj' hij u tx s (by omega)
  rw [gapp, gapp, hL] at c1
  have gp : (h ++ L)[h.length]? = some (.cells 134 1 [.ptr i 0 0]) := by rw [hL]; simp
  have gq : (h ++ L)[h.length + 1]? = some (.cells 44 1 [.sl 4 (avs l) none]) := by rw [hL]; simp
  have hn : decide ((l.length : Int) > 0) = decide (0 < l.length) := by rw [Bool.eq_iff_iff]; simp
  have hx : ((if decide (0 < l.length) = true then tx ++ s ++ lpa else tx ++ s)).size + body.size ≤ 140737488355328 := by
    by_cases h0 : 0 < l.length
    · rw [if_pos (decide_eq_true h0), Qu, Qu]
      rw [encB, if_pos (decide_eq_true h0), Qu, Qu] at hsz
      omega
    · rw [if_neg (by simpa using h0), Qu]
      omega
  have hw := Qfv (h := h ++ L) hi' hj' hij l (p := h.length) (q := h.length + 1) (by omega) (by omega) (by omega) (by omega) (by omega) (by omega) gp gq hl ih (by rw [gapp]; exact HasG.app hG _)
    (if decide (0 < l.length) = true then tx ++ s ++ lpa else tx ++ s) (by rw [← hbody]; exact hx)
  rw [← hbody] at hw
  have c2 := QaE (h := h ++ L) hi' hj' hij (decide (0 < l.length)) true (tx ++ s) body (fv := .fn (.func 123) [] [.ptr (h.length + 1) 0 0, .ptr h.length 0 0]) (by rw [Qu]; omega) (FunW.fn hw)
  rw [gapp, gapp, hL] at c2
  have f2 := fun u tx L => Qcr h i j u tx L
  have f3 := fun u tx L => Qe7 h i j u tx L
  have f6 := fun u tx L => Qci (h := h) hi hij u tx L
  have f1 := Qdy h i j
  refine Qg Tryz.func84 rfl Tryz.call84 Tryz.ntmps84 (congrArg Array.toList Tryz.results84) (by simp) ?_
  repeat (first | ((first | (with_reducible (first | refine Qa fun K E hK hE => ?_ | refine Qn fun K E hK hE => ?_ | refine FunW.ret (FunW.call c1) ?_ | refine FunW.ret (FunW.call c2) ?_))); simp -implicitDefEqProofs only [Qf, Qb, Qi, OpW, QW, aop, undef, AS.ev, Qc, Qq, Qm, QC, List.getD_cons_zero, List.getD_cons_succ, AV.Qj3, Xp, Xd, List.all_cons, List.all_nil, QH, Xh, Bool.and_self, ↓reduceIte, List.length_cons, List.length_nil, Nat.reduceLT, Nat.reduceEqDiff, Nat.zero_add, Nat.add_zero, Ql, QI, QJ, aBin, aLen, hlen, happ, List.getElem?_cons_zero, List.getElem?_cons_succ, Option.map_some, List.map_cons, List.map_nil, List.cons_append, List.nil_append, Q6, goInt, QG, ti44, un44, Z4, Yf, Q0, f1, f2, f3, f6, QG, hn]) | ((with_reducible refine hK _ ?_); clear hK))
  simp -implicitDefEqProofs only [Option.map_some, Option.some.injEq, List.mapM_nil, Option.pure_def, Option.map_some, QO, Qp, exists_eq_left']
  exact XW hi hj hij (.keep (.tup _ fun x hx => by cases hx)) ⟨rfl, by rw [funT, Qcx, ← hbody, ByteArray.append_assoc]⟩
end Go.Proofs.YtenheconhibonaaGreatDoor.Ab
set_option linter.unusedSimpArgs false
set_option linter.unusedVariables false
set_option maxHeartbeats 4000000
set_option maxRecDepth 4000
namespace Go.Proofs.YtenheconhibonaaGreatDoor.Ab
open Go.Proofs
def TIh (i j : Nat) (t : T) : Prop := ∀ (h : AH), i < h.length → j < h.length → Xu (HB h i j true (.empty)) → ∀ (u : Bool) (tx : ByteArray), tx.size + t.txt.size ≤ 140737488355328 → Wri 86 [.ptr i 0 0, t.av] h i j u tx t.txt
theorem QhH (b : Bool) (x tx : ByteArray) : (if b = true then tx ++ lpa else tx).size + x.size ≤ tx.size + (encB b x).size := by
  rw [encB]; split
  · rw [Qu, Qu, Qu]; omega
  · exact Nat.le_refl _
theorem Qi1 {h : AH} {i j : Nat} (hi : i < h.length) (hj : j < h.length) (hij : i ≠ j) (n : ByteArray) (x : Int) (a c : T) (hn : n.size ≤ 1000000) (ho : ofB n ≠ 0) (hla : a.args.length ≤ 1000000) (hlc : c.args.length ≤ 1000000) (iha : TIh i j a) (ihc : TIh i j c)
    (hG : Xu (HB h i j true (.empty))) (u : Bool) (tx : ByteArray) (hs : tx.size + (binT (ofB n) n a.oper c.oper a.txt c.txt).size ≤ 140737488355328) :
    Wri 86 [.ptr i 0 0, (T.mk 2 x n [a, c]).av] h i j u tx (binT (ofB n) n a.oper c.oper a.txt c.txt) := by
  obtain ⟨t, ht⟩ : ∃ t, t = T.mk 2 x n [a, c] := ⟨_, rfl⟩
  have eo : t.oper = ofB n := by rw [ht]; rfl
  have eav : t.av = .agg [.i 2, .i x, .v (.string n), .sl 4 (avs [a, c]) none] := by rw [ht]; rfl
  obtain ⟨L, hL⟩ : ∃ L : AH, L = [AB.cells 134 1 [.ptr i 0 0], AB.cells 69 4 [t.av]] := ⟨_, rfl⟩
  have hlL : (h ++ L).length = h.length + 2 := by rw [hL]; simp
  have hi' : i < (h ++ L).length := by omega
  have hj' : j < (h ++ L).length := by omega
  have gapp := fun (u : Bool) (tx : ByteArray) (L : AH) => Qgj (h := h) (i := i) (j := j) hi hj u tx L
  have hG' : Xu (HB (h ++ L) i j true (.empty)) := by rw [gapp]; exact HasG.app hG _
  have gp : ∀ u tx, (HB (h ++ L) i j u tx)[h.length]? = some (.cells 134 1 [.ptr i 0 0]) := fun u tx => by rw [gapp, Qcr, hL]; rfl
  have gq : ∀ u tx, (HB (h ++ L) i j u tx)[h.length + 1]? = some (.cells 69 4 [t.av]) := fun u tx => by rw [gapp, Qe7, hL]; rfl
  have ct := QaT t (by rw [ht]; simp [maxLen, T.args])
  rw [eo, eav] at ct
  have ca := QaT a (by simp only [maxLen]; omega)
  have cc := QaT c (by simp only [maxLen]; omega)
  obtain ⟨o, eoo⟩ : ∃ o, o = ofB n := ⟨_, rfl⟩
  obtain ⟨oa, eoa⟩ : ∃ o, o = a.oper := ⟨_, rfl⟩
  obtain ⟨oc, eoc⟩ : ∃ o, o = c.oper := ⟨_, rfl⟩
  rw [← eoo] at ct
  rw [← eoa] at ca
  rw [← eoc] at cc
  rw [← eoo, ← eoa, ← eoc] at hs ⊢
  rw [← eoo] at ho
  have hm := hs
  simp only [binT, Qu] at hm
  have hsp : ({ data := #[32] } : ByteArray).size = 1 := rfl
  -- the first operand
  have hw1 := fun (u : Bool) (q : Bool) (tx' : ByteArray) (hq : tx'.size + a.txt.size ≤ 140737488355328) => Qip (p := h.length) (q := h.length + 1) (t := t) (a := a) (gp u tx') (gq u tx') (by rw [ht]; rfl) (iha (h ++ L) hi' hj' hG' u tx' hq)
  have hw2 := fun (u : Bool) (q : Bool) (tx' : ByteArray) (hq : tx'.size + c.txt.size ≤ 140737488355328) => QhK (p := h.length) (q := h.length + 1) (t := t) (a := c) (gp u tx') (gq u tx') (by rw [ht]; rfl) (ihc (h ++ L) hi' hj' hG' u tx' hq)
  have e1 := QhH ((oa == 1) && (o == 2)) a.txt tx
  have c1 := QaE (h := h ++ L) hi' hj' hij ((oa == 1) && (o == 2)) u tx a.txt (fv := .fn (.func 125) [] [.ptr h.length 0 0, .ptr (h.length + 1) 0 0]) (by omega) (FunW.fn (hw1 _ true _ (by omega)))
  obtain ⟨tx1, etx1⟩ : ∃ z, z = tx ++ encB ((oa == 1) && (o == 2)) a.txt := ⟨_, rfl⟩
  rw [← etx1] at c1
  have hsz1 : tx1.size = tx.size + (encB ((oa == 1) && (o == 2)) a.txt).size := by rw [etx1, Qu]
  have c2 := wstr (h := h ++ L) hi' hj' hij true tx1 (({ data := #[32] } : ByteArray) ++ n ++ { data := #[32] }) (by simp only [Qu]; omega)
  obtain ⟨tx2, etx2⟩ : ∃ z, z = tx1 ++ (({ data := #[32] } : ByteArray) ++ n ++ { data := #[32] }) := ⟨_, rfl⟩
  rw [← etx2] at c2
  have hsz2 : tx2.size = tx1.size + (1 + n.size + 1) := by rw [etx2]; simp only [Qu, hsp]
  have e3 := QhH ((oc != 0) && ((oc == 1) || (o == 2))) c.txt tx2
  have c3 := QaE (h := h ++ L) hi' hj' hij ((oc != 0) && ((oc == 1) || (o == 2))) true tx2 c.txt (fv := .fn (.func 126) [] [.ptr h.length 0 0, .ptr (h.length + 1) 0 0]) (by omega) (FunW.fn (hw2 _ true _ (by omega)))
  have efin : tx2 ++ encB ((oc != 0) && ((oc == 1) || (o == 2))) c.txt = tx ++ binT o n oa oc a.txt c.txt := by
    rw [etx2, etx1, binT]; simp only [ByteArray.append_assoc]
  rw [efin] at c3
  rw [gapp, gapp, hL, eav] at c1 c2 c3
  have f1 := Qdy h i j
  have f2 := fun u tx L => Qcr h i j u tx L
  have f3 := fun u tx L => Qe7 h i j u tx L
  have f6 := fun u tx L => Qci (h := h) hi hij u tx L
  have hsa1 := fun xo yo => ZZ Tryz.prog 9 xo yo ({ data := #[32] } : ByteArray) n (by omega)
  have hsa2 := fun xo yo => ZZ Tryz.prog 9 xo yo (({ data := #[32] } : ByteArray) ++ n) { data := #[32] } (by rw [Qu]; omega)
  have ga : (avs [a, c])[0]? = some a.av := rfl
  have gc : (avs [a, c])[1]? = some c.av := rfl
  have hav : (T.mk 2 x n [a, c]).av = .agg [.i 2, .i x, .v (.string n), .sl 4 (avs [a, c]) none] := rfl
  have ho' : (o != 0) = true := by simpa using ho
  rw [hav]
  have hll : (avs [a, c]).length = 2 := rfl
  have z0 : ((0 : Int) ≤ 1) = True := by simp
  have z1 : ((0 : Int) < ((2 : Nat) : Int)) = True := by simp
  have z2 : ((1 : Int) < ((2 : Nat) : Int)) = True := by simp
  obtain ⟨q1, eq1⟩ : ∃ z, z = ((oa == 1) && (o == 2)) := ⟨_, rfl⟩
  obtain ⟨q3, eq3⟩ : ∃ z, z = ((oc != 0) && ((oc == 1) || (o == 2))) := ⟨_, rfl⟩
  rw [← eq1] at c1
  rw [← eq3] at c3
  cases b1 : (oa == 1)
  · cases b2 : (o == 2)
    · cases b3 : (oc != 0)
      · have hq1 : q1 = false := by rw [eq1, b1, b2]; rfl
        have hq3 : q3 = false := by rw [eq3, b2, b3]; rfl
        rw [hq1] at c1
        rw [hq3] at c3
        refine Qg Tryz.func86 rfl Tryz.call86 Tryz.ntmps86 (congrArg Array.toList Tryz.results86) (by simp) ?_
        repeat (first | ((first | (with_reducible (first | refine Qa fun K E hK hE => ?_ | refine Qn fun K E hK hE => ?_ | refine Qy ct ?_ | refine QP ca ?_ | refine QP cc ?_ | refine FunW.ret (FunW.call c1) ?_ | refine FunW.ret (FunW.call c3) ?_ | refine Xz (FunW.call c2) Zw ?_)) | (refine QQ (id := 4) [(0, 0), (1, 0), (2, 0), (3, 0), (4, 1), (5, 0), (6, 0), (7, 0), (8, 0), (9, 1), (10, 0), (11, 0)] mixed (by kernel_rfl) fun K hK => ?_) | (refine QQ (id := 6) [(0, 0), (1, 0), (2, 0), (3, 0), (4, 0), (5, 0), (6, 0), (7, 2)] mixed (by kernel_rfl) fun K hK => ?_)); simp -implicitDefEqProofs only [Xc, Q7, Xn, Qf, Qb, Qi, OpW, QW, aop, undef, AS.ev, Qc, Qq, Qz, QM, Qm, QC, List.getD_cons_zero, List.getD_cons_succ, AV.Qj3, Qr, Xd, QD, List.all_cons, List.all_nil, QB, Qw, QH, Xh, Bool.and_self, ↓reduceIte, List.length_cons, List.length_nil, Nat.reduceAdd, Nat.reduceLT, Nat.reduceLeDiff, Nat.reduceEqDiff, Nat.zero_add, Nat.add_zero, and_self, Ql, QI, QJ, QL, aBin, hlen, happ, List.getElem?_cons_zero, List.getElem?_cons_succ, Option.map_some, Option.bind_some, List.getElem?_toArray, List.map_cons, List.map_nil, List.cons_append, List.nil_append, QU, XJ, Int.toNat_zero, Int.toNat_one, Bool.false_eq_true, beq_true, T.Qj2, T.Qj4, ti9, ti44, ei44, ti69, X6, XL, Z4, Yf, Int.le_refl, Q0, f1, f2, f3, f6, ho', hll, ga, gc, z0, z1, z2, b1, b3, hsa1, hsa2, T.Qj4, T.Qj2]) | (with_reducible (first | refine Qk ?_ | refine Qs ?_)) | ((with_reducible refine hK _ ?_); clear hK) | (refine Qj rfl ?_; simp only [↓reduceIte]))
        simp -implicitDefEqProofs only [Option.map_some, Option.some.injEq, List.mapM_nil, Option.pure_def, Option.map_some, QO, Qp, exists_eq_left']
        exact XW hi hj hij (.keep (.tup _ fun x hx => by cases hx)) ⟨rfl, rfl⟩
      · cases b4 : (oc == 1)
        · have hq1 : q1 = false := by rw [eq1, b1, b2]; rfl
          have hq3 : q3 = false := by rw [eq3, b2, b3, b4]; rfl
          rw [hq1] at c1
          rw [hq3] at c3
          refine Qg Tryz.func86 rfl Tryz.call86 Tryz.ntmps86 (congrArg Array.toList Tryz.results86) (by simp) ?_
          repeat (first | ((first | (with_reducible (first | refine Qa fun K E hK hE => ?_ | refine Qn fun K E hK hE => ?_ | refine Qy ct ?_ | refine QP ca ?_ | refine QP cc ?_ | refine FunW.ret (FunW.call c1) ?_ | refine FunW.ret (FunW.call c3) ?_ | refine Xz (FunW.call c2) Zw ?_)) | (refine QQ (id := 4) [(0, 0), (1, 0), (2, 0), (3, 0), (4, 1), (5, 0), (6, 0), (7, 0), (8, 0), (9, 1), (10, 0), (11, 0)] mixed (by kernel_rfl) fun K hK => ?_) | (refine QQ (id := 6) [(0, 0), (1, 0), (2, 0), (3, 0), (4, 0), (5, 0), (6, 0), (7, 2)] mixed (by kernel_rfl) fun K hK => ?_)); simp -implicitDefEqProofs only [Xc, Q7, Xn, Qf, Qb, Qi, OpW, QW, aop, undef, AS.ev, Qc, Qq, Qz, QM, Qm, QC, List.getD_cons_zero, List.getD_cons_succ, AV.Qj3, Qr, Xd, QD, List.all_cons, List.all_nil, QB, Qw, QH, Xh, Bool.and_self, ↓reduceIte, List.length_cons, List.length_nil, Nat.reduceAdd, Nat.reduceLT, Nat.reduceLeDiff, Nat.reduceEqDiff, Nat.zero_add, Nat.add_zero, and_self, Ql, QI, QJ, QL, aBin, hlen, happ, List.getElem?_cons_zero, List.getElem?_cons_succ, Option.map_some, Option.bind_some, List.getElem?_toArray, List.map_cons, List.map_nil, List.cons_append, List.nil_append, QU, XJ, beq_self_eq_true, Int.toNat_zero, Int.toNat_one, Bool.false_eq_true, beq_true, T.Qj2, T.Qj4, ti9, ti44, ei44, ti69, X6, XL, Z4, Yf, Int.le_refl, Q0, f1, f2, f3, f6, ho', hll, ga, gc, z0, z1, z2, b1, b2, b3, b4, hsa1, hsa2, T.Qj4, T.Qj2]) | (with_reducible (first | refine Qk ?_ | refine Qs ?_)) | ((with_reducible refine hK _ ?_); clear hK) | (refine Qj rfl ?_; simp only [↓reduceIte]))
          simp -implicitDefEqProofs only [Option.map_some, Option.some.injEq, List.mapM_nil, Option.pure_def, Option.map_some, QO, Qp, exists_eq_left']
          exact XW hi hj hij (.keep (.tup _ fun x hx => by cases hx)) ⟨rfl, rfl⟩
        · have hq1 : q1 = false := by rw [eq1, b1, b2]; rfl
          have hq3 : q3 = true := by rw [eq3, b2, b3, b4]; rfl
          rw [hq1] at c1
          rw [hq3] at c3
          refine Qg Tryz.func86 rfl Tryz.call86 Tryz.ntmps86 (congrArg Array.toList Tryz.results86) (by simp) ?_
          repeat (first | ((first | (with_reducible (first | refine Qa fun K E hK hE => ?_ | refine Qn fun K E hK hE => ?_ | refine Qy ct ?_ | refine QP ca ?_ | refine QP cc ?_ | refine FunW.ret (FunW.call c1) ?_ | refine FunW.ret (FunW.call c3) ?_ | refine Xz (FunW.call c2) Zw ?_)) | (refine QQ (id := 4) [(0, 0), (1, 0), (2, 0), (3, 0), (4, 1), (5, 0), (6, 0), (7, 0), (8, 0), (9, 1), (10, 0), (11, 0)] mixed (by kernel_rfl) fun K hK => ?_) | (refine QQ (id := 6) [(0, 0), (1, 0), (2, 0), (3, 0), (4, 0), (5, 0), (6, 0), (7, 2)] mixed (by kernel_rfl) fun K hK => ?_)); simp -implicitDefEqProofs only [Xc, Q7, Xn, Qf, Qb, Qi, OpW, QW, aop, undef, AS.ev, Qc, Qq, Qz, QM, Qm, QC, List.getD_cons_zero, List.getD_cons_succ, AV.Qj3, Qr, Xd, QD, List.all_cons, List.all_nil, QB, Qw, QH, Xh, Bool.and_self, Bool.not_true, ↓reduceIte, List.length_cons, List.length_nil, Nat.reduceAdd, Nat.reduceLT, Nat.reduceLeDiff, Nat.reduceEqDiff, Nat.zero_add, Nat.add_zero, and_self, Ql, QI, QJ, QL, aBin, hlen, happ, List.getElem?_cons_zero, List.getElem?_cons_succ, Option.map_some, Option.bind_some, List.getElem?_toArray, List.map_cons, List.map_nil, List.cons_append, List.nil_append, QU, XJ, beq_self_eq_true, Int.toNat_zero, Int.toNat_one, Bool.false_eq_true, beq_true, beq_false, T.Qj2, T.Qj4, ti9, ti44, ei44, ti69, X6, XL, Z4, Yf, Int.le_refl, Q0, f1, f2, f3, f6, ho', hll, ga, gc, z0, z1, z2, b1, b3, b4, hsa1, hsa2, T.Qj4, T.Qj2]) | (with_reducible (first | refine Qk ?_ | refine Qs ?_)) | ((with_reducible refine hK _ ?_); clear hK) | (refine Qj rfl ?_; simp only [↓reduceIte]))
          simp -implicitDefEqProofs only [Option.map_some, Option.some.injEq, List.mapM_nil, Option.pure_def, Option.map_some, QO, Qp, exists_eq_left']
          exact XW hi hj hij (.keep (.tup _ fun x hx => by cases hx)) ⟨rfl, rfl⟩
    · cases b3 : (oc != 0)
      · have hq1 : q1 = false := by rw [eq1, b1, b2]; rfl
        have hq3 : q3 = false := by rw [eq3, b2, b3]; rfl
        rw [hq1] at c1
        rw [hq3] at c3
        refine Qg Tryz.func86 rfl Tryz.call86 Tryz.ntmps86 (congrArg Array.toList Tryz.results86) (by simp) ?_
        repeat (first | ((first | (with_reducible (first | refine Qa fun K E hK hE => ?_ | refine Qn fun K E hK hE => ?_ | refine Qy ct ?_ | refine QP ca ?_ | refine QP cc ?_ | refine FunW.ret (FunW.call c1) ?_ | refine FunW.ret (FunW.call c3) ?_ | refine Xz (FunW.call c2) Zw ?_)) | (refine QQ (id := 4) [(0, 0), (1, 0), (2, 0), (3, 0), (4, 1), (5, 0), (6, 0), (7, 0), (8, 0), (9, 1), (10, 0), (11, 0)] mixed (by kernel_rfl) fun K hK => ?_) | (refine QQ (id := 6) [(0, 0), (1, 0), (2, 0), (3, 0), (4, 0), (5, 0), (6, 0), (7, 2)] mixed (by kernel_rfl) fun K hK => ?_)); simp -implicitDefEqProofs only [Xc, Q7, Xn, Qf, Qb, Qi, OpW, QW, aop, undef, AS.ev, Qc, Qq, Qz, QM, Qm, QC, List.getD_cons_zero, List.getD_cons_succ, AV.Qj3, Qr, Xd, QD, List.all_cons, List.all_nil, QB, Qw, QH, Xh, Bool.and_self, ↓reduceIte, List.length_cons, List.length_nil, Nat.reduceAdd, Nat.reduceLT, Nat.reduceLeDiff, Nat.reduceEqDiff, Nat.zero_add, Nat.add_zero, and_self, Ql, QI, QJ, QL, aBin, hlen, happ, List.getElem?_cons_zero, List.getElem?_cons_succ, Option.map_some, Option.bind_some, List.getElem?_toArray, List.map_cons, List.map_nil, List.cons_append, List.nil_append, QU, XJ, Int.toNat_zero, Int.toNat_one, Bool.false_eq_true, beq_true, T.Qj2, T.Qj4, ti9, ti44, ei44, ti69, X6, XL, Z4, Yf, Int.le_refl, Q0, f1, f2, f3, f6, ho', hll, ga, gc, z0, z1, z2, b1, b3, hsa1, hsa2, T.Qj4, T.Qj2]) | (with_reducible (first | refine Qk ?_ | refine Qs ?_)) | ((with_reducible refine hK _ ?_); clear hK) | (refine Qj rfl ?_; simp only [↓reduceIte]))
        simp -implicitDefEqProofs only [Option.map_some, Option.some.injEq, List.mapM_nil, Option.pure_def, Option.map_some, QO, Qp, exists_eq_left']
        exact XW hi hj hij (.keep (.tup _ fun x hx => by cases hx)) ⟨rfl, rfl⟩
      · cases b4 : (oc == 1)
        · have hq1 : q1 = false := by rw [eq1, b1, b2]; rfl
          have hq3 : q3 = true := by rw [eq3, b2, b3, b4]; rfl
          rw [hq1] at c1
          rw [hq3] at c3
          refine Qg Tryz.func86 rfl Tryz.call86 Tryz.ntmps86 (congrArg Array.toList Tryz.results86) (by simp) ?_
          repeat (first | ((first | (with_reducible (first | refine Qa fun K E hK hE => ?_ | refine Qn fun K E hK hE => ?_ | refine Qy ct ?_ | refine QP ca ?_ | refine QP cc ?_ | refine FunW.ret (FunW.call c1) ?_ | refine FunW.ret (FunW.call c3) ?_ | refine Xz (FunW.call c2) Zw ?_)) | (refine QQ (id := 4) [(0, 0), (1, 0), (2, 0), (3, 0), (4, 1), (5, 0), (6, 0), (7, 0), (8, 0), (9, 1), (10, 0), (11, 0)] mixed (by kernel_rfl) fun K hK => ?_) | (refine QQ (id := 6) [(0, 0), (1, 0), (2, 0), (3, 0), (4, 0), (5, 0), (6, 0), (7, 2)] mixed (by kernel_rfl) fun K hK => ?_)); simp -implicitDefEqProofs only [Xc, Q7, Xn, Qf, Qb, Qi, OpW, QW, aop, undef, AS.ev, Qc, Qq, Qz, QM, Qm, QC, List.getD_cons_zero, List.getD_cons_succ, AV.Qj3, Qr, Xd, QD, List.all_cons, List.all_nil, QB, Qw, QH, Xh, Bool.and_self, ↓reduceIte, List.length_cons, List.length_nil, Nat.reduceAdd, Nat.reduceLT, Nat.reduceLeDiff, Nat.reduceEqDiff, Nat.zero_add, Nat.add_zero, and_self, Ql, QI, QJ, QL, aBin, hlen, happ, List.getElem?_cons_zero, List.getElem?_cons_succ, Option.map_some, Option.bind_some, List.getElem?_toArray, List.map_cons, List.map_nil, List.cons_append, List.nil_append, QU, XJ, beq_self_eq_true, Int.toNat_zero, Int.toNat_one, Bool.false_eq_true, beq_true, T.Qj2, T.Qj4, ti9, ti44, ei44, ti69, X6, XL, Z4, Yf, Int.le_refl, Q0, f1, f2, f3, f6, ho', hll, ga, gc, z0, z1, z2, b1, b2, b3, b4, hsa1, hsa2, T.Qj4, T.Qj2]) | (with_reducible (first | refine Qk ?_ | refine Qs ?_)) | ((with_reducible refine hK _ ?_); clear hK) | (refine Qj rfl ?_; simp only [↓reduceIte]))
          simp -implicitDefEqProofs only [Option.map_some, Option.some.injEq, List.mapM_nil, Option.pure_def, Option.map_some, QO, Qp, exists_eq_left']
          exact XW hi hj hij (.keep (.tup _ fun x hx => by cases hx)) ⟨rfl, rfl⟩
        · have hq1 : q1 = false := by rw [eq1, b1, b2]; rfl
          have hq3 : q3 = true := by rw [eq3, b2, b3, b4]; rfl
          rw [hq1] at c1
          rw [hq3] at c3
          refine Qg Tryz.func86 rfl Tryz.call86 Tryz.ntmps86 (congrArg Array.toList Tryz.results86) (by simp) ?_
          repeat (first | ((first | (with_reducible (first | refine Qa fun K E hK hE => ?_ | refine Qn fun K E hK hE => ?_ | refine Qy ct ?_ | refine QP ca ?_ | refine QP cc ?_ | refine FunW.ret (FunW.call c1) ?_ | refine FunW.ret (FunW.call c3) ?_ | refine Xz (FunW.call c2) Zw ?_)) | (refine QQ (id := 4) [(0, 0), (1, 0), (2, 0), (3, 0), (4, 1), (5, 0), (6, 0), (7, 0), (8, 0), (9, 1), (10, 0), (11, 0)] mixed (by kernel_rfl) fun K hK => ?_) | (refine QQ (id := 6) [(0, 0), (1, 0), (2, 0), (3, 0), (4, 0), (5, 0), (6, 0), (7, 2)] mixed (by kernel_rfl) fun K hK => ?_)); simp -implicitDefEqProofs only [Xc, Q7, Xn, Qf, Qb, Qi, OpW, QW, aop, undef, AS.ev, Qc, Qq, Qz, QM, Qm, QC, List.getD_cons_zero, List.getD_cons_succ, AV.Qj3, Qr, Xd, QD, List.all_cons, List.all_nil, QB, Qw, QH, Xh, Bool.and_self, Bool.not_true, ↓reduceIte, List.length_cons, List.length_nil, Nat.reduceAdd, Nat.reduceLT, Nat.reduceLeDiff, Nat.reduceEqDiff, Nat.zero_add, Nat.add_zero, and_self, Ql, QI, QJ, QL, aBin, hlen, happ, List.getElem?_cons_zero, List.getElem?_cons_succ, Option.map_some, Option.bind_some, List.getElem?_toArray, List.map_cons, List.map_nil, List.cons_append, List.nil_append, QU, XJ, beq_self_eq_true, Int.toNat_zero, Int.toNat_one, Bool.false_eq_true, beq_true, beq_false, T.Qj2, T.Qj4, ti9, ti44, ei44, ti69, X6, XL, Z4, Yf, Int.le_refl, Q0, f1, f2, f3, f6, ho', hll, ga, gc, z0, z1, z2, b1, b3, b4, hsa1, hsa2, T.Qj4, T.Qj2]) | (with_reducible (first | refine Qk ?_ | refine Qs ?_)) | ((with_reducible refine hK _ ?_); clear hK) | (refine Qj rfl ?_; simp only [↓reduceIte]))
          simp -implicitDefEqProofs only [Option.map_some, Option.some.injEq, List.mapM_nil, Option.pure_def, Option.map_some, QO, Qp, exists_eq_left']
          exact XW hi hj hij (.keep (.tup _ fun x hx => by cases hx)) ⟨rfl, rfl⟩
  · cases b2 : (o == 2)
    · cases b3 : (oc != 0)
      · have hq1 : q1 = false := by rw [eq1, b1, b2]; rfl
        have hq3 : q3 = false := by rw [eq3, b2, b3]; rfl
        rw [hq1] at c1
        rw [hq3] at c3
        refine Qg Tryz.func86 rfl Tryz.call86 Tryz.ntmps86 (congrArg Array.toList Tryz.results86) (by simp) ?_
        repeat (first | ((first | (with_reducible (first | refine Qa fun K E hK hE => ?_ | refine Qn fun K E hK hE => ?_ | refine Qy ct ?_ | refine QP ca ?_ | refine QP cc ?_ | refine FunW.ret (FunW.call c1) ?_ | refine FunW.ret (FunW.call c3) ?_ | refine Xz (FunW.call c2) Zw ?_)) | (refine QQ (id := 4) [(0, 0), (1, 0), (2, 0), (3, 0), (4, 1), (5, 0), (6, 0), (7, 0), (8, 0), (9, 1), (10, 0), (11, 0)] mixed (by kernel_rfl) fun K hK => ?_) | (refine QQ (id := 6) [(0, 0), (1, 0), (2, 0), (3, 0), (4, 0), (5, 0), (6, 0), (7, 2)] mixed (by kernel_rfl) fun K hK => ?_)); simp -implicitDefEqProofs only [Xc, Q7, Xn, Qf, Qb, Qi, OpW, QW, aop, undef, AS.ev, Qc, Qq, Qz, QM, Qm, QC, List.getD_cons_zero, List.getD_cons_succ, AV.Qj3, Qr, Xd, QD, List.all_cons, List.all_nil, QB, Qw, QH, Xh, Bool.and_self, ↓reduceIte, List.length_cons, List.length_nil, Nat.reduceAdd, Nat.reduceLT, Nat.reduceLeDiff, Nat.reduceEqDiff, Nat.zero_add, Nat.add_zero, and_self, Ql, QI, QJ, QL, aBin, hlen, happ, List.getElem?_cons_zero, List.getElem?_cons_succ, Option.map_some, Option.bind_some, List.getElem?_toArray, List.map_cons, List.map_nil, List.cons_append, List.nil_append, QU, XJ, beq_self_eq_true, Int.toNat_zero, Int.toNat_one, Bool.false_eq_true, beq_true, T.Qj2, T.Qj4, ti9, ti44, ei44, ti69, X6, XL, Z4, Yf, Int.le_refl, Q0, f1, f2, f3, f6, ho', hll, ga, gc, z0, z1, z2, b1, b2, b3, hsa1, hsa2, T.Qj4, T.Qj2]) | (with_reducible (first | refine Qk ?_ | refine Qs ?_)) | ((with_reducible refine hK _ ?_); clear hK) | (refine Qj rfl ?_; simp only [↓reduceIte]))
        simp -implicitDefEqProofs only [Option.map_some, Option.some.injEq, List.mapM_nil, Option.pure_def, Option.map_some, QO, Qp, exists_eq_left']
        exact XW hi hj hij (.keep (.tup _ fun x hx => by cases hx)) ⟨rfl, rfl⟩
      · cases b4 : (oc == 1)
        · have hq1 : q1 = false := by rw [eq1, b1, b2]; rfl
          have hq3 : q3 = false := by rw [eq3, b2, b3, b4]; rfl
          rw [hq1] at c1
          rw [hq3] at c3
          refine Qg Tryz.func86 rfl Tryz.call86 Tryz.ntmps86 (congrArg Array.toList Tryz.results86) (by simp) ?_
          repeat (first | ((first | (with_reducible (first | refine Qa fun K E hK hE => ?_ | refine Qn fun K E hK hE => ?_ | refine Qy ct ?_ | refine QP ca ?_ | refine QP cc ?_ | refine FunW.ret (FunW.call c1) ?_ | refine FunW.ret (FunW.call c3) ?_ | refine Xz (FunW.call c2) Zw ?_)) | (refine QQ (id := 4) [(0, 0), (1, 0), (2, 0), (3, 0), (4, 1), (5, 0), (6, 0), (7, 0), (8, 0), (9, 1), (10, 0), (11, 0)] mixed (by kernel_rfl) fun K hK => ?_) | (refine QQ (id := 6) [(0, 0), (1, 0), (2, 0), (3, 0), (4, 0), (5, 0), (6, 0), (7, 2)] mixed (by kernel_rfl) fun K hK => ?_)); simp -implicitDefEqProofs only [Xc, Q7, Xn, Qf, Qb, Qi, OpW, QW, aop, undef, AS.ev, Qc, Qq, QM, Qm, QC, List.getD_cons_zero, List.getD_cons_succ, AV.Qj3, Qr, Xd, QD, List.all_cons, List.all_nil, QB, Qw, QH, Xh, Bool.and_self, ↓reduceIte, List.length_cons, List.length_nil, Nat.reduceAdd, Nat.reduceLT, Nat.reduceLeDiff, Nat.reduceEqDiff, Nat.zero_add, Nat.add_zero, and_self, Ql, QI, QJ, QL, aBin, hlen, happ, List.getElem?_cons_zero, List.getElem?_cons_succ, Option.map_some, Option.bind_some, List.getElem?_toArray, List.map_cons, List.map_nil, List.cons_append, List.nil_append, QU, XJ, beq_self_eq_true, Int.toNat_zero, Int.toNat_one, Bool.false_eq_true, T.Qj2, T.Qj4, ti9, ti44, ei44, ti69, X6, XL, Z4, Yf, Int.le_refl, Q0, f1, f2, f3, f6, ho', hll, ga, gc, z0, z1, z2, b1, b2, b3, b4, hsa1, hsa2, T.Qj4, T.Qj2]) | (with_reducible (first | refine Qk ?_ | refine Qs ?_)) | ((with_reducible refine hK _ ?_); clear hK) | (refine Qj rfl ?_; simp only [↓reduceIte]))
          simp -implicitDefEqProofs only [Option.map_some, Option.some.injEq, List.mapM_nil, Option.pure_def, Option.map_some, QO, Qp, exists_eq_left']
          exact XW hi hj hij (.keep (.tup _ fun x hx => by cases hx)) ⟨rfl, rfl⟩
        · have hq1 : q1 = false := by rw [eq1, b1, b2]; rfl
          have hq3 : q3 = true := by rw [eq3, b2, b3, b4]; rfl
          rw [hq1] at c1
          rw [hq3] at c3
          refine Qg Tryz.func86 rfl Tryz.call86 Tryz.ntmps86 (congrArg Array.toList Tryz.results86) (by simp) ?_
          repeat (first | ((first | (with_reducible (first | refine Qa fun K E hK hE => ?_ | refine Qn fun K E hK hE => ?_ | refine Qy ct ?_ | refine QP ca ?_ | refine QP cc ?_ | refine FunW.ret (FunW.call c1) ?_ | refine FunW.ret (FunW.call c3) ?_ | refine Xz (FunW.call c2) Zw ?_)) | (refine QQ (id := 4) [(0, 0), (1, 0), (2, 0), (3, 0), (4, 1), (5, 0), (6, 0), (7, 0), (8, 0), (9, 1), (10, 0), (11, 0)] mixed (by kernel_rfl) fun K hK => ?_) | (refine QQ (id := 6) [(0, 0), (1, 0), (2, 0), (3, 0), (4, 0), (5, 0), (6, 0), (7, 2)] mixed (by kernel_rfl) fun K hK => ?_)); simp -implicitDefEqProofs only [Xc, Q7, Xn, Qf, Qb, Qi, OpW, QW, aop, undef, AS.ev, Qc, Qq, Qz, QM, Qm, QC, List.getD_cons_zero, List.getD_cons_succ, AV.Qj3, Qr, Xd, QD, List.all_cons, List.all_nil, QB, Qw, QH, Xh, Bool.and_self, Bool.not_true, ↓reduceIte, List.length_cons, List.length_nil, Nat.reduceAdd, Nat.reduceLT, Nat.reduceLeDiff, Nat.reduceEqDiff, Nat.zero_add, Nat.add_zero, and_self, Ql, QI, QJ, QL, aBin, hlen, happ, List.getElem?_cons_zero, List.getElem?_cons_succ, Option.map_some, Option.bind_some, List.getElem?_toArray, List.map_cons, List.map_nil, List.cons_append, List.nil_append, QU, XJ, beq_self_eq_true, Int.toNat_zero, Int.toNat_one, beq_false, T.Qj2, T.Qj4, ti9, ti44, ei44, ti69, X6, XL, Z4, Yf, Int.le_refl, Q0, f1, f2, f3, f6, ho', hll, ga, gc, z0, z1, z2, b1, b2, b3, b4, hsa1, hsa2, T.Qj4, T.Qj2]) | (with_reducible (first | refine Qk ?_ | refine Qs ?_)) | ((with_reducible refine hK _ ?_); clear hK) | (refine Qj rfl ?_; simp only [↓reduceIte]))
          simp -implicitDefEqProofs only [Option.map_some, Option.some.injEq, List.mapM_nil, Option.pure_def, Option.map_some, QO, Qp, exists_eq_left']
          exact XW hi hj hij (.keep (.tup _ fun x hx => by cases hx)) ⟨rfl, rfl⟩
    · cases b3 : (oc != 0)
      · have hq1 : q1 = true := by rw [eq1, b1, b2]; rfl
        have hq3 : q3 = false := by rw [eq3, b2, b3]; rfl
        rw [hq1] at c1
        rw [hq3] at c3
        refine Qg Tryz.func86 rfl Tryz.call86 Tryz.ntmps86 (congrArg Array.toList Tryz.results86) (by simp) ?_
        repeat (first | ((first | (with_reducible (first | refine Qa fun K E hK hE => ?_ | refine Qn fun K E hK hE => ?_ | refine Qy ct ?_ | refine QP ca ?_ | refine QP cc ?_ | refine FunW.ret (FunW.call c1) ?_ | refine FunW.ret (FunW.call c3) ?_ | refine Xz (FunW.call c2) Zw ?_)) | (refine QQ (id := 4) [(0, 0), (1, 0), (2, 0), (3, 0), (4, 1), (5, 0), (6, 0), (7, 0), (8, 0), (9, 1), (10, 0), (11, 0)] mixed (by kernel_rfl) fun K hK => ?_) | (refine QQ (id := 6) [(0, 0), (1, 0), (2, 0), (3, 0), (4, 0), (5, 0), (6, 0), (7, 2)] mixed (by kernel_rfl) fun K hK => ?_)); simp -implicitDefEqProofs only [Xc, Q7, Xn, Qf, Qb, Qi, OpW, QW, aop, undef, AS.ev, Qc, Qq, Qz, QM, Qm, QC, List.getD_cons_zero, List.getD_cons_succ, AV.Qj3, Qr, Xd, QD, List.all_cons, List.all_nil, QB, Qw, QH, Xh, Bool.and_self, ↓reduceIte, List.length_cons, List.length_nil, Nat.reduceAdd, Nat.reduceLT, Nat.reduceLeDiff, Nat.reduceEqDiff, Nat.zero_add, Nat.add_zero, and_self, Ql, QI, QJ, QL, aBin, hlen, happ, List.getElem?_cons_zero, List.getElem?_cons_succ, Option.map_some, Option.bind_some, List.getElem?_toArray, List.map_cons, List.map_nil, List.cons_append, List.nil_append, QU, XJ, beq_self_eq_true, Int.toNat_zero, Int.toNat_one, Bool.false_eq_true, beq_true, T.Qj2, T.Qj4, ti9, ti44, ei44, ti69, X6, XL, Z4, Yf, Int.le_refl, Q0, f1, f2, f3, f6, ho', hll, ga, gc, z0, z1, z2, b1, b2, b3, hsa1, hsa2, T.Qj4, T.Qj2]) | (with_reducible (first | refine Qk ?_ | refine Qs ?_)) | ((with_reducible refine hK _ ?_); clear hK) | (refine Qj rfl ?_; simp only [↓reduceIte]))
        simp -implicitDefEqProofs only [Option.map_some, Option.some.injEq, List.mapM_nil, Option.pure_def, Option.map_some, QO, Qp, exists_eq_left']
        exact XW hi hj hij (.keep (.tup _ fun x hx => by cases hx)) ⟨rfl, rfl⟩
      · cases b4 : (oc == 1)
        · have hq1 : q1 = true := by rw [eq1, b1, b2]; rfl
          have hq3 : q3 = true := by rw [eq3, b2, b3, b4]; rfl
          rw [hq1] at c1
          rw [hq3] at c3
          refine Qg Tryz.func86 rfl Tryz.call86 Tryz.ntmps86 (congrArg Array.toList Tryz.results86) (by simp) ?_
          repeat (first | ((first | (with_reducible (first | refine Qa fun K E hK hE => ?_ | refine Qn fun K E hK hE => ?_ | refine Qy ct ?_ | refine QP ca ?_ | refine QP cc ?_ | refine FunW.ret (FunW.call c1) ?_ | refine FunW.ret (FunW.call c3) ?_ | refine Xz (FunW.call c2) Zw ?_)) | (refine QQ (id := 4) [(0, 0), (1, 0), (2, 0), (3, 0), (4, 1), (5, 0), (6, 0), (7, 0), (8, 0), (9, 1), (10, 0), (11, 0)] mixed (by kernel_rfl) fun K hK => ?_) | (refine QQ (id := 6) [(0, 0), (1, 0), (2, 0), (3, 0), (4, 0), (5, 0), (6, 0), (7, 2)] mixed (by kernel_rfl) fun K hK => ?_)); simp -implicitDefEqProofs only [Xc, Q7, Xn, Qf, Qb, Qi, OpW, QW, aop, undef, AS.ev, Qc, Qq, QM, Qm, QC, List.getD_cons_zero, List.getD_cons_succ, AV.Qj3, Qr, Xd, QD, List.all_cons, List.all_nil, QB, Qw, QH, Xh, Bool.and_self, ↓reduceIte, List.length_cons, List.length_nil, Nat.reduceAdd, Nat.reduceLT, Nat.reduceLeDiff, Nat.reduceEqDiff, Nat.zero_add, Nat.add_zero, and_self, Ql, QI, QJ, QL, aBin, hlen, happ, List.getElem?_cons_zero, List.getElem?_cons_succ, Option.map_some, Option.bind_some, List.getElem?_toArray, List.map_cons, List.map_nil, List.cons_append, List.nil_append, QU, XJ, beq_self_eq_true, Int.toNat_zero, Int.toNat_one, Bool.false_eq_true, T.Qj2, T.Qj4, ti9, ti44, ei44, ti69, X6, XL, Z4, Yf, Int.le_refl, Q0, f1, f2, f3, f6, ho', hll, ga, gc, z0, z1, z2, b1, b2, b3, b4, hsa1, hsa2, T.Qj4, T.Qj2]) | (with_reducible (first | refine Qk ?_ | refine Qs ?_)) | ((with_reducible refine hK _ ?_); clear hK) | (refine Qj rfl ?_; simp only [↓reduceIte]))
          simp -implicitDefEqProofs only [Option.map_some, Option.some.injEq, List.mapM_nil, Option.pure_def, Option.map_some, QO, Qp, exists_eq_left']
          exact XW hi hj hij (.keep (.tup _ fun x hx => by cases hx)) ⟨rfl, rfl⟩
        · have hq1 : q1 = true := by rw [eq1, b1, b2]; rfl
          have hq3 : q3 = true := by rw [eq3, b2, b3, b4]; rfl
          rw [hq1] at c1
          rw [hq3] at c3
          refine Qg Tryz.func86 rfl Tryz.call86 Tryz.ntmps86 (congrArg Array.toList Tryz.results86) (by simp) ?_
          repeat (first | ((first | (with_reducible (first | refine Qa fun K E hK hE => ?_ | refine Qn fun K E hK hE => ?_ | refine Qy ct ?_ | refine QP ca ?_ | refine QP cc ?_ | refine FunW.ret (FunW.call c1) ?_ | refine FunW.ret (FunW.call c3) ?_ | refine Xz (FunW.call c2) Zw ?_)) | (refine QQ (id := 4) [(0, 0), (1, 0), (2, 0), (3, 0), (4, 1), (5, 0), (6, 0), (7, 0), (8, 0), (9, 1), (10, 0), (11, 0)] mixed (by kernel_rfl) fun K hK => ?_) | (refine QQ (id := 6) [(0, 0), (1, 0), (2, 0), (3, 0), (4, 0), (5, 0), (6, 0), (7, 2)] mixed (by kernel_rfl) fun K hK => ?_)); simp -implicitDefEqProofs only [Xc, Q7, Xn, Qf, Qb, Qi, OpW, QW, aop, undef, AS.ev, Qc, Qq, Qz, QM, Qm, QC, List.getD_cons_zero, List.getD_cons_succ, AV.Qj3, Qr, Xd, QD, List.all_cons, List.all_nil, QB, Qw, QH, Xh, Bool.and_self, Bool.not_true, ↓reduceIte, List.length_cons, List.length_nil, Nat.reduceAdd, Nat.reduceLT, Nat.reduceLeDiff, Nat.reduceEqDiff, Nat.zero_add, Nat.add_zero, and_self, Ql, QI, QJ, QL, aBin, hlen, happ, List.getElem?_cons_zero, List.getElem?_cons_succ, Option.map_some, Option.bind_some, List.getElem?_toArray, List.map_cons, List.map_nil, List.cons_append, List.nil_append, QU, XJ, beq_self_eq_true, Int.toNat_zero, Int.toNat_one, beq_false, T.Qj2, T.Qj4, ti9, ti44, ei44, ti69, X6, XL, Z4, Yf, Int.le_refl, Q0, f1, f2, f3, f6, ho', hll, ga, gc, z0, z1, z2, b1, b2, b3, b4, hsa1, hsa2, T.Qj4, T.Qj2]) | (with_reducible (first | refine Qk ?_ | refine Qs ?_)) | ((with_reducible refine hK _ ?_); clear hK) | (refine Qj rfl ?_; simp only [↓reduceIte]))
          simp -implicitDefEqProofs only [Option.map_some, Option.some.injEq, List.mapM_nil, Option.pure_def, Option.map_some, QO, Qp, exists_eq_left']
          exact XW hi hj hij (.keep (.tup _ fun x hx => by cases hx)) ⟨rfl, rfl⟩
end Go.Proofs.YtenheconhibonaaGreatDoor.Ab
set_option linter.unusedSimpArgs false
set_option linter.unusedVariables false
set_option maxHeartbeats 4000000
set_option maxRecDepth 4000
namespace Go.Proofs.YtenheconhibonaaGreatDoor.Ab
open Go.Proofs
theorem Qbt (h : AH) (_ : 3 = 3) : Keep h h := Keep.refl h
theorem QiD {h : AH} {i j : Nat} (hi : i < h.length) (hj : j < h.length) (hij : i ≠ j) (t : T) (ho : t.oper = 0) (hl : t.args.length ≤ 1000000)
    (l0 : t.kind = 0 → -9223372036854775807 ≤ t.int ∧ t.int ≤ 9223372036854775807) (l1 : t.kind = 1 → 0 ≤ t.int ∧ t.int ≤ 1048576)
    (ih : ∀ a ∈ t.args, TIh i j a) (hG : Xu (HB h i j true (.empty))) (u : Bool) (tx : ByteArray)
    (s : ByteArray) (es : s = if t.kind = 0 then decZ t.int else if t.kind = 1 then vOf (decN t.int.toNat) else funT t.name (txts t.args)) (hs : tx.size + s.size ≤ 140737488355328) :
    Wri 86 [.ptr i 0 0, t.av] h i j u tx s := by
  have eav : t.av = .agg [.i t.kind, .i t.int, .v (.string t.name), .sl 4 (avs t.args) none] := by cases t; rfl
  obtain ⟨L, hL⟩ : ∃ L : AH, L = [AB.cells 134 1 [.ptr i 0 0], AB.cells 69 4 [t.av]] := ⟨_, rfl⟩
  have hlL : (h ++ L).length = h.length + 2 := by rw [hL]; simp
  have hi' : i < (h ++ L).length := by omega
  have hj' : j < (h ++ L).length := by omega
  have gapp := fun (u : Bool) (tx : ByteArray) (L : AH) => Qgj (h := h) (i := i) (j := j) hi hj u tx L
  have hG' : Xu (HB (h ++ L) i j true (.empty)) := by rw [gapp]; exact HasG.app hG _
  have hG2 : Xu (HB (h ++ L) i j u tx) := QjT hij hG'
  have ct := QaT t (by simp only [maxLen]; omega)
  rw [ho, eav] at ct
  have f1 := Qdy h i j
  have f2 := fun u tx L => Qcr h i j u tx L
  have f3 := fun u tx L => Qe7 h i j u tx L
  have f6 := fun u tx L => Qci (h := h) hi hij u tx L
  by_cases k0 : t.kind = 0
  · rw [if_pos k0] at es
    rw [k0] at eav ct
    have c1 := Qdi t.int (by have := l0 k0; omega) (l0 k0).2 _ hG2
    have c2 := wstr (h := h ++ L) hi' hj' hij u tx s hs
    rw [es] at c2
    rw [gapp, hL, eav] at c1
    rw [gapp, gapp, hL, eav] at c2
    rw [eav, es]
    refine Qg Tryz.func86 rfl Tryz.call86 Tryz.ntmps86 (congrArg Array.toList Tryz.results86) (by simp) ?_
    repeat (first | ((first | (with_reducible (first | refine Qa fun K E hK hE => ?_ | refine Qy ct ?_ | refine Xz (FunW.call c1) (Qbt _) ?_ | refine Xz (FunW.call c2) Zw ?_)) | (refine Xv (id := 9) [(0, 0), (1, 0), (2, 0), (3, 0), (4, 0), (5, 3), (6, 2)] mixed (by kernel_rfl) fun K hK => ?_)); simp -implicitDefEqProofs only [Xc, Q7, Xn, Qf, Qb, Qi, OpW, QW, aop, undef, AS.ev, Qc, Qq, Qm, QC, List.getD_cons_zero, List.getD_cons_succ, AV.Qj3, Qr, Xd, QD, List.all_cons, List.all_nil, QB, Qw, QH, Xh, Bool.and_self, ↓reduceIte, List.length_cons, List.length_nil, Nat.reduceAdd, Nat.reduceLT, Nat.reduceLeDiff, Nat.reduceEqDiff, Nat.zero_add, Nat.add_zero, and_self, Ql, QI, QJ, aBin, hlen, happ, List.getElem?_cons_zero, List.getElem?_cons_succ, Option.map_some, List.getElem?_toArray, List.map_cons, List.map_nil, List.cons_append, List.nil_append, QU, XJ, beq_self_eq_true, bne_self_eq_false, ti3, ti69, Xw, Ya, Z4, Yf, Q0, f1, f2, f3, f6]) | (with_reducible (first | refine Qk ?_ | refine Qs ?_)) | ((with_reducible refine hK _ ?_); clear hK) | (refine Qj rfl ?_; simp only [↓reduceIte, Bool.false_eq_true]))
    simp -implicitDefEqProofs only [Option.map_some, Option.some.injEq, List.mapM_nil, Option.pure_def, Option.map_some, QO, Qp, exists_eq_left']
    exact XW hi hj hij (.keep (.tup _ fun x hx => by cases hx)) ⟨rfl, rfl⟩
  · rw [if_neg k0] at es
    have m0 : (t.kind == 0) = false := by simpa using k0
    by_cases k1 : t.kind = 1
    · rw [if_pos k1] at es
      rw [k1] at eav ct
      have z1 : ((1 : Int) == 0) = false := by decide
      have en : t.int = (t.int.toNat : Int) := by have := l1 k1; omega
      have c1 := Qh8 t.int.toNat (by have := l1 k1; omega) _ hG2
      rw [← en] at c1
      have c2 := wstr (h := h ++ L) hi' hj' hij u tx s hs
      rw [es] at c2
      rw [gapp, hL, eav] at c1
      rw [gapp, gapp, hL, eav] at c2
      rw [eav, es]
      refine Qg Tryz.func86 rfl Tryz.call86 Tryz.ntmps86 (congrArg Array.toList Tryz.results86) (by simp) ?_
      repeat (first | ((first | (with_reducible (first | refine Qa fun K E hK hE => ?_ | refine Qy ct ?_ | refine Xz (FunW.call c1) (Qbt _) ?_ | refine Xz (FunW.call c2) Zw ?_)) | (refine Xv (id := 11) [(0, 0), (1, 0), (2, 0), (3, 0), (4, 0), (5, 3), (6, 2)] mixed (by kernel_rfl) fun K hK => ?_)); simp -implicitDefEqProofs only [Xc, Q7, Xn, Qf, Qb, Qi, OpW, QW, aop, undef, AS.ev, Qc, Qq, Qm, QC, List.getD_cons_zero, List.getD_cons_succ, AV.Qj3, Qr, Xd, QD, List.all_cons, List.all_nil, QB, Qw, QH, Xh, Bool.and_self, ↓reduceIte, List.length_cons, List.length_nil, Nat.reduceAdd, Nat.reduceLT, Nat.reduceLeDiff, Nat.reduceEqDiff, Nat.zero_add, Nat.add_zero, and_self, Ql, QI, QJ, aBin, hlen, happ, List.getElem?_cons_zero, List.getElem?_cons_succ, Option.map_some, List.getElem?_toArray, List.map_cons, List.map_nil, List.cons_append, List.nil_append, QU, XJ, beq_self_eq_true, bne_self_eq_false, ti3, ti69, Xw, Ya, Z4, Yf, Q0, f1, f2, f3, f6, z1]) | (with_reducible (first | refine Qk ?_ | refine Qs ?_)) | ((with_reducible refine hK _ ?_); clear hK) | (refine Qj rfl ?_; simp only [↓reduceIte, Bool.false_eq_true]))
      simp -implicitDefEqProofs only [Option.map_some, Option.some.injEq, List.mapM_nil, Option.pure_def, Option.map_some, QO, Qp, exists_eq_left']
      exact XW hi hj hij (.keep (.tup _ fun x hx => by cases hx)) ⟨rfl, rfl⟩
    · rw [if_neg k1] at es
      have m1 : (t.kind == 1) = false := by simpa using k1
      have c1 := ZL (h := h ++ L) hi' hj' hij t.args hl t.name (fun a ha h hi hj hG tx hs => ih a ha h hi hj hG true tx hs) hG' u tx (by rw [← es]; exact hs)
      rw [Wri, ← es, gapp, gapp, hL, eav] at c1
      rw [eav]
      refine Qg Tryz.func86 rfl Tryz.call86 Tryz.ntmps86 (congrArg Array.toList Tryz.results86) (by simp) ?_
      repeat (first | ((first | (with_reducible (first | refine Qa fun K E hK hE => ?_ | refine Qn fun K E hK hE => ?_ | refine Qy ct ?_ | refine FunW.ret (FunW.call c1) ?_))); simp -implicitDefEqProofs only [Qf, Qb, Qi, OpW, QW, aop, undef, AS.ev, Qc, Qq, Qm, QC, List.getD_cons_zero, List.getD_cons_succ, AV.Qj3, Qr, Xd, QD, List.all_cons, List.all_nil, QB, Qw, QH, Xh, Bool.and_self, ↓reduceIte, List.length_cons, List.length_nil, Nat.reduceAdd, Nat.reduceLT, Nat.reduceEqDiff, Nat.zero_add, Nat.add_zero, and_self, Ql, QI, QJ, aBin, hlen, happ, List.getElem?_cons_zero, List.getElem?_cons_succ, Option.map_some, List.map_cons, List.map_nil, List.cons_append, List.nil_append, QU, XJ, bne_self_eq_false, ti3, ti9, ti44, ti69, Xw, X6, XL, Z4, f1, f2, f3, m0, m1]) | (with_reducible (first | refine Qk ?_ | refine Qs ?_)) | ((with_reducible refine hK _ ?_); clear hK) | (refine Qj rfl ?_; simp only [↓reduceIte, Bool.false_eq_true]))
      simp -implicitDefEqProofs only [Option.map_some, Option.some.injEq, List.mapM_nil, Option.pure_def, Option.map_some, QO, Qp, exists_eq_left']
      exact XW hi hj hij (.keep (.tup _ fun x hx => by cases hx)) ⟨rfl, rfl⟩
mutual
theorem T.Qj8 : ∀ (t : T), t.lex → ∀ (i j : Nat), i ≠ j → TIh i j t
  | .mk k x n l, hx, i, j, hij => fun h hi hj hG u tx hs => by
    obtain ⟨l0, l1, hl, hn, hll⟩ := hx
    have ih := QaR l hll i j hij
    by_cases ho : (T.mk k x n l).oper = 0
    · have es : (T.mk k x n l).txt = if k = 0 then decZ x else if k = 1 then vOf (decN x.toNat) else funT n (txts l) := by rw [T.txt, if_neg (by simpa using ho)]
      exact QiD hi hj hij (T.mk k x n l) ho hl l0 l1 ih hG u tx _ es hs
    · have hk : k = 2 ∧ l.length = 2 ∧ ofB n ≠ 0 := by
        simp only [T.oper] at ho
        split at ho
        · exact absurd rfl ho
        · rename_i hq
          exact ⟨Decidable.byContradiction fun e => hq (.inl e), Decidable.byContradiction fun e => hq (.inr e), ho⟩
      obtain ⟨rfl, h2, hon⟩ := hk
      match l, h2, hll, ih with
      | [a, c], _, hll, ih =>
        have et : (T.mk 2 x n [a, c]).txt = binT (ofB n) n a.oper c.oper a.txt c.txt := by rw [T.txt, if_pos ho]; rfl
        rw [et] at hs ⊢
        have la : a.args.length ≤ 1000000 := by cases a; exact hll.1.2.2.1
        have lc : c.args.length ≤ 1000000 := by cases c; exact hll.2.1.2.2.1
        exact Qi1 hi hj hij n x a c hn hon la lc (ih a (by simp)) (ih c (by simp)) hG u tx hs
theorem QaR : ∀ (l : List T), lexL l → ∀ (i j : Nat), i ≠ j → ∀ a ∈ l, TIh i j a
  | [], _, _, _, _, a, ha => by cases ha
  | t :: l, hx, i, j, hij, a, ha => by
    have h1 := T.Qj8 t hx.1 i j hij
    have h2 := QaR l hx.2 i j hij
    rcases List.mem_cons.1 ha with e | e
    · rw [e]; exact h1
    · exact h2 a e
end
end Go.Proofs.YtenheconhibonaaGreatDoor.Ab
set_option linter.unusedVariables false
namespace Go.Proofs.YtenheconhibonaaGreatDoor.Ab
theorem Qjk {c : Cx} (hst : St c) (id ty e : Nat) (p : Value) (hb : c.h[id]? = some (.cells ty 2 [.agg [.v p, .v (.slice none 0 0)]])) :
    ∃ c2, Ev c c2 ∧ St c2 ∧ c2.h = (c.h ++ [AB.grow e 1 0]).set id (AB.cells ty 2 [.agg [.v p, .sl 1 [] (some c.h.length)]]) ∧ c2.w = c.w := by
  obtain ⟨hev, hst1⟩ := Qh4 hst e 1
  have hlt := QK hb
  have hb1 : (c.add c.w (.grow e 1 0) none).h[id]? = some (.cells ty 2 [.agg [.v p, .v (.slice none 0 0)]]) := by
    simp only [Cx.add]; rw [List.getElem?_append_left hlt]; exact hb
  obtain ⟨B, cur, hρ, hcur, h3, h4⟩ := hst1.blocks id _ hb1
  have hev2 := Ev.turn (b' := .cells ty 2 [.agg [.v p, .sl 1 [] (some c.h.length)]]) hst1 hb1 rfl hρ (w := c.w) rfl rfl rfl rfl (fun _ _ => rfl) (.inr ⟨_, rfl, rfl, fun _ cur _ h => ⟨cur, h, rfl⟩⟩)
  have htok : ((c.add c.w (.grow e 1 0) none).turn c.w id (.cells ty 2 [.agg [.v p, .sl 1 [] (some c.h.length)]])).tokNil c.h.length 1 := by
    refine ⟨by simp [Cx.turn, Cx.add], fun e2 s2 n2 hg2 => ?_⟩
    simp only [Cx.turn, Cx.add] at hg2
    rw [List.getElem?_set_ne (by omega), List.getElem?_append_right (Nat.le_refl _), Nat.sub_self] at hg2
    simp at hg2
    exact ⟨hg2.2.1.symm, fun _ => by simp [Cx.turn, Cx.add]⟩
  have hfl : flat [AV.agg [.v p, .v (.slice none 0 0)]] = [.v p, .v (.slice none 0 0)] := rfl
  have hst2 := St.turn (b' := .cells ty 2 [.agg [.v p, .sl 1 [] (some c.h.length)]]) hst1 hb1 rfl hρ (w := c.w) (fun _ _ => rfl) hev2 ⟨B, cur, hρ, hcur, (by simp [AV.cells]), by
    intro j a' hj
    have hj' : [AV.v p, .sl 1 [] (some c.h.length)][j]? = some a' := hj
    match j with
    | 0 =>
      simp only [List.getElem?_cons_zero, Option.some.injEq] at hj'
      subst hj'
      obtain ⟨u, g1, g2, g3⟩ := h4 0 (.v p) (by rw [hfl]; rfl)
      exact ⟨u, g1, g2, g3.ev hst1 hev2⟩
    | 1 =>
      simp only [List.getElem?_cons_succ, List.getElem?_cons_zero, Option.some.injEq] at hj'
      subst hj'
      obtain ⟨u, g1, g2, g3⟩ := h4 1 (.v (.slice none 0 0)) (by rw [hfl]; rfl)
      cases g3
      exact ⟨_, g1, g2, .slnil _ _ fun b hb => by cases hb; exact htok⟩
    | j + 2 => simp at hj'⟩
  exact ⟨_, Ev.trans hst hev hev2, hst2, rfl, rfl⟩
theorem Zx {P : Program} {N : Nat} {code : Code} {Q : AExit → AS → Prop} {tm : Nat → AV} {h : AH} (id ty e : Nat) (p : Value) (hb : h[id]? = some (.cells ty 2 [.agg [.v p, .v (.slice none 0 0)]]))
    (H : YE P N code Q ⟨tm, (h ++ [AB.grow e 1 0]).set id (AB.cells ty 2 [.agg [.v p, .sl 1 [] (some h.length)]])⟩) : YE P N code Q ⟨tm, h⟩ := by
  intro F n base c a hF hst hr R hR
  have hh : c.h = h := hr.h
  subst hh
  obtain ⟨c2, hev, hst2, hh2, hw⟩ := Qjk hst id ty e p hb
  rw [← hw]
  exact H F n base c2 a hF hst2 ⟨hh2, hr.size, Nat.le_trans hr.above hev.size, hr.defers.ev hev, RoundOk.ev hev hr.round, fun t => (hr.tm t).ev hst hev⟩ R fun e' s' c' a' ex hq h1 h2 h3 h4 => hR e' s' c' a' ex hq (Ev.trans hst hev h1) h2 h3 h4
theorem QfE {P : Program} {fv : AV} {args : List AV} {h : AH} {Q : AOut → AH → Prop} (id ty e : Nat) (p : Value) (hb : h[id]? = some (.cells ty 2 [.agg [.v p, .v (.slice none 0 0)]]))
    (H : FunW P fv args ((h ++ [AB.grow e 1 0]).set id (AB.cells ty 2 [.agg [.v p, .sl 1 [] (some h.length)]])) Q) : FunW P fv args h Q := by
  intro F n c v vals hF hs hh hv hvs o a next Qx h1 h2
  subst hh
  obtain ⟨c2, hev, hst2, hh2, hw⟩ := Qjk hs id ty e p hb
  rw [← hw]
  exact H F n c2 v vals hF hst2 hh2 (hv.ev hs hev) (hvs.ev hs hev) o a next Qx (fun r c' x hQ he => h1 r c' x hQ (Ev.trans hs hev he)) (fun r c' x hQ he => h2 r c' x hQ (Ev.trans hs hev he))
end Go.Proofs.YtenheconhibonaaGreatDoor.Ab
set_option linter.unusedSimpArgs false
set_option linter.unusedVariables false
set_option maxHeartbeats 4000000
set_option maxRecDepth 4000
namespace Go.Proofs.YtenheconhibonaaGreatDoor.Ab
open Go.Proofs
theorem Qix (fv : AV) : Pure Tryz.prog 82 [.b false, fv] (.v (.string { data := #[] })) := by
  intro h
  refine Qg Tryz.func82 rfl Tryz.call82 Tryz.ntmps82 (congrArg Array.toList Tryz.results82) (by simp) ?_
  repeat (first | (((with_reducible refine Qa fun K E hK hE => ?_)); simp -implicitDefEqProofs only [Qf, Qb, Qi, OpW, aop, undef, AS.ev, Qc, QM, Qm, QC, List.getD_cons_zero, Bool.not_false, ↓reduceIte, Nat.reduceLT, Nat.reduceEqDiff, Option.map_some, XM]) | (with_reducible (first | refine Qh fun K hK => ?_ | refine Qo ?_ | refine QA ?_)) | ((with_reducible refine hK _ ?_); clear hK) | (refine Qj rfl ?_; simp only [↓reduceIte]))
  simp only [QO, Qp, Qv, upd, ↓reduceIte, Option.some.injEq, exists_eq_left']; first | refine Qd (htake _ _) (.keep (.v _)) ⟨rfl, rfl⟩ | refine Qd List.take_length (.keep (.v _)) ⟨rfl, rfl⟩
theorem Qgw (fv r : AV) (s : ByteArray) (h : AH) (h0 : 0 < s.size) (hs : s.size ≤ 140737488355328)
    (hw : FunW Tryz.prog fv [.ptr h.length 0 0] (HB (h ++ [AB.dead, AB.dead]) h.length (h.length + 1) false .empty) fun o h' => o = .ret r ∧ h' = HB (h ++ [AB.dead, AB.dead]) h.length (h.length + 1) true s) :
    XG Tryz.prog 82 [.b true, fv] h fun o h' => o = .ret (.v (.string s)) ∧ h' = h := by
  have hi : h.length < (h ++ [AB.dead, AB.dead]).length := by simp
  have hj : h.length + 1 < (h ++ [AB.dead, AB.dead]).length := by simp
  have e0 : HB (h ++ [AB.dead, AB.dead]) h.length (h.length + 1) false .empty = h ++ [AB.cells 138 2 [.agg [.v (.pointer none), .sl 1 [] (some (h.length + 1))]], AB.grow 5 1 0] := by
    simp [HB, hs2, bw]; rfl
  have e1 : HB (h ++ [AB.dead, AB.dead]) h.length (h.length + 1) true s = h ++ [bw 138 h.length (h.length + 1) true s, AB.grow 5 1 s.size] := by
    simp [HB, hs2]
  have c1 := QaX (ty := 138) (i := h.length) (j := h.length + 1) (by omega) s h0 hs (h ++ [AB.dead, AB.dead]) hi hj
  have e2 : hs2 (h ++ [AB.dead, AB.dead]) h.length (bw 138 h.length (h.length + 1) true s) (h.length + 1) .gone = h ++ [bw 138 h.length (h.length + 1) true s, AB.gone] := by
    simp [hs2]
  rw [e2, ← HB, e1] at c1
  rw [e1, e0] at hw
  refine Qg Tryz.func82 rfl Tryz.call82 Tryz.ntmps82 (congrArg Array.toList Tryz.results82) (by simp) ?_
  repeat (first | (((with_reducible refine Qa fun K E hK hE => ?_)); simp -implicitDefEqProofs only [Qf, Qb, Qi, OpW, aop, undef, AS.ev, Qc, QM, Qm, QC, List.getD_cons_zero, List.getD_cons_succ, AV.Qj3, Qr, List.all_cons, List.all_nil, QN, Q9, Bool.and_self, Bool.not_true, ↓reduceIte, List.length_cons, List.length_nil, Nat.reduceAdd, Nat.reduceLT, Nat.reduceEqDiff, Nat.zero_add, Option.map_some, List.map_cons, List.map_nil, XM, QjZ]) | (with_reducible (first | refine Qh fun K hK => ?_ | refine Qt ?_ | refine Qe ?_)) | ((with_reducible refine hK _ ?_); clear hK) | (refine Qj rfl ?_; simp only [↓reduceIte, Bool.false_eq_true]))
  refine QfE h.length 138 5 (.pointer none) (by simp) ?_
  refine FunW.ret (h' := h ++ [bw 138 h.length (h.length + 1) true s, AB.grow 5 1 s.size]) (r := r) (by simpa using hw) ?_
  rw [bw1] at c1 ⊢
  simp -implicitDefEqProofs only [Qf, QW, Qc, Nat.reduceLT]
  repeat (first | ((first | (with_reducible (first | refine Qa fun K E hK hE => ?_ | refine FunW.ret (FunW.call c1) ?_))); simp -implicitDefEqProofs only [Qf, Qb, Qi, OpW, QW, aop, AS.ev, Qc, Qm, ↓reduceIte, Nat.reduceLT, Nat.reduceEqDiff, Nat.add_zero, Ql, QX, List.getElem?_cons_zero, Option.map_some, List.map_cons, List.map_nil, Yf]) | (with_reducible refine Qo ?_) | ((with_reducible refine hK _ ?_); clear hK))
  simp only [QO, Qp, Qv, upd, ↓reduceIte, Option.some.injEq, exists_eq_left']; first | refine Qd (htake _ _) (.keep (.v _)) ⟨rfl, rfl⟩ | refine Qd List.take_length (.keep (.v _)) ⟨rfl, rfl⟩
end Go.Proofs.YtenheconhibonaaGreatDoor.Ab
set_option linter.unusedSimpArgs false
set_option linter.unusedVariables false
set_option maxHeartbeats 4000000
set_option maxRecDepth 4000
namespace Go.Proofs.YtenheconhibonaaGreatDoor.Ab
open Go.Proofs
def Zj (s : ByteArray) : Bool := decide (QdR 1 s) && !resB s
def YH (s : ByteArray) : Bool := s.toList == ({ data := #[] } : ByteArray).toList
mutual
def T.run : T → Int → Int → Bool × Int
  | .mk k i n l, b, d =>
    if b - 1 < 0 ∨ d < 1 then (false, b - 1) else
    if k = 0 then (decide (-2147483648 ≤ i ∧ i ≤ 2147483648) && YH n && l.isEmpty, b - 1) else
    if k = 1 then (decide (0 ≤ i ∧ i ≤ 1048576) && YH n && l.isEmpty, b - 1) else
    if k = 2 then (if i ≠ 0 ∨ 6 < l.length then (false, b - 1) else if (!Zj n && !(opB n && decide (l.length = 2))) = true then (false, b - 1) else runL l (b - 1) (d - 1)) else (false, b - 1)
def runL : List T → Int → Int → Bool × Int
  | [], b, d => (true, b)
  | t :: l, b, d => if (t.run b d).1 = true then runL l (t.run b d).2 d else (false, (t.run b d).2)
end
theorem T.run_eq (t : T) (b d : Int) : t.run b d = if b - 1 < 0 ∨ d < 1 then (false, b - 1) else
    if t.kind = 0 then (decide (-2147483648 ≤ t.int ∧ t.int ≤ 2147483648) && YH t.name && t.args.isEmpty, b - 1) else
    if t.kind = 1 then (decide (0 ≤ t.int ∧ t.int ≤ 1048576) && YH t.name && t.args.isEmpty, b - 1) else
    if t.kind = 2 then (if t.int ≠ 0 ∨ 6 < t.args.length then (false, b - 1) else if (!Zj t.name && !(opB t.name && decide (t.args.length = 2))) = true then (false, b - 1) else runL t.args (b - 1) (d - 1)) else (false, b - 1) := by
  cases t; rw [T.run]; rfl
theorem QiC {l : List T} {k : Nat} (h : k < l.length) (b d : Int) : runL (l.drop k) b d = if ((l[k]).run b d).1 = true then runL (l.drop (k + 1)) ((l[k]).run b d).2 d else (false, ((l[k]).run b d).2) := by
  rw [List.drop_eq_getElem_cons h]; simp only [runL]
def bud (b : Int) : AB := .cells 149 1 [.agg [.i b]]
theorem QhE (d : Int) (ih : ∀ (t : T) (b : Int) (i : Nat), -1 ≤ b → b ≤ 1000 → Chg Tryz.prog 139 [.ptr i 0 0, t.av, .i d] i (bud b) (.b (t.run b d).1) (bud (t.run b d).2))
    (l : List T) (hl : l.length ≤ 1000) (b : Int) (i : Nat) (hb : -1 ≤ b ∧ b ≤ 1000) (hr : ∀ (t : T) (b : Int), -1 ≤ b ∧ b ≤ 1000 → (t.run b d).1 = true → -1 ≤ (t.run b d).2 ∧ (t.run b d).2 ≤ 1000) :
    Chg Tryz.prog 101 [.ptr i 0 0, .sl 4 (avs l) none, .i d] i (bud b) (.b (runL l b d).1) (bud (runL l b d).2) := by
  intro h hi
  have f1 := fun x => Y1 h i x
  refine Qg Tryz.func101 rfl Tryz.call101 Tryz.ntmps101 (congrArg Array.toList Tryz.results101) (by simp) ?_
  repeat (first | (((with_reducible refine Qa fun K E hK hE => ?_)); simp -implicitDefEqProofs only [Qf, Qb, Qi, OpW, aop, undef, AS.ev, Qc, Qq, Qz, Qm, QC, List.getD_cons_zero, List.getD_cons_succ, ↓reduceIte, Nat.reduceLT, Nat.reduceEqDiff, aLen, Option.map_some, goInt, QG, un44, QG]) | (with_reducible (first | refine Qh fun K hK => ?_ | refine Qk ?_)) | ((with_reducible refine hK _ ?_); clear hK))
  obtain ⟨I, hI⟩ : ∃ I : Nat → AS → Prop, I = fun m' s => ∃ (k : Nat) (b' : Int), m' = l.length - k ∧ k ≤ l.length ∧ (-1 ≤ b' ∧ b' ≤ 1000) ∧ runL l b d = runL (l.drop k) b' d ∧ s.tm 0 = .ptr i 0 0 ∧ s.tm 1 = .sl 4 (avs l) none ∧ s.tm 2 = .i d ∧ s.tm 9 = .i l.length ∧ s.tm 10 = .i k ∧ s.h = hs h i (bud b') := ⟨_, rfl⟩; refine Q4 I ?_ (m := l.length) ?_
  · intro m' s hs; rw [hI] at hs; obtain ⟨tm, hp⟩ := s; dsimp only at hs; obtain ⟨k, b', rfl, hk, hb', he, t0, t1, t2, t9, t10, rfl⟩ := hs
    by_cases hlt : k < l.length
    · have hg := Zc hlt
      have c := ih l[k] b' i hb'.1 hb'.2 h hi
      rw [QiC hlt] at he
      cases hr1 : ((l[k]).run b' d).1 with
      | true =>
        rw [hr1] at c he
        repeat (first | ((first | (with_reducible (first | refine Qa fun K E hK hE => ?_ | refine Qn fun K E hK hE => ?_ | refine FunW.ret (FunW.call c) ?_))); simp -implicitDefEqProofs only [Qf, Qb, Qi, OpW, QW, aop, AS.ev, Qc, Qq, Qm, Bool.not_true, ↓reduceIte, List.length_cons, List.length_nil, Nat.reduceAdd, Nat.reduceLT, Nat.reduceEqDiff, Nat.zero_add, and_self, QI, QJ, QL, aBin, Option.map_some, List.map_cons, List.map_nil, QY, Xj, XM, decide_true, Int.toNat_natCast, Int.natCast_nonneg, Int.ofNat_lt, T.Qj2, T.Qj4, QG, ei44, ti69, t0, t1, t2, t9, t10, hlt, hg, T.Qj4, T.Qj2]) | (with_reducible (first | refine Qh fun K hK => ?_ | refine Qk ?_ | refine Qt ?_ | refine Qe ?_ | refine Qs ?_)) | ((with_reducible refine hK _ ?_); clear hK) | (refine Qj rfl ?_; simp only [↓reduceIte, Bool.false_eq_true]))
        refine XE.mk (m' := l.length - (k + 1)) (by omega) ?_
        rw [hI]
        refine ⟨k + 1, _, rfl, hlt, hr _ _ hb' hr1, by rw [he, if_pos rfl], t0, t1, t2, t9, ?_, rfl⟩
        simp only [upd, ↓reduceIte]
        rw [Xf (by omega)]
      | false =>
        rw [hr1] at c he
        rw [if_neg (by simp)] at he
        repeat (first | ((first | (with_reducible (first | refine Qa fun K E hK hE => ?_ | refine FunW.ret (FunW.call c) ?_))); simp -implicitDefEqProofs only [Qf, Qb, Qi, OpW, QW, aop, AS.ev, Qc, Qz, Qm, Bool.not_false, ↓reduceIte, List.length_cons, List.length_nil, Nat.reduceAdd, Nat.reduceLT, Nat.reduceEqDiff, Nat.zero_add, and_self, QI, QJ, QL, aBin, Option.map_some, List.map_cons, List.map_nil, QY, XM, decide_true, Int.toNat_natCast, Int.natCast_nonneg, Int.ofNat_lt, T.Qj2, T.Qj4, QG, ei44, ti69, t0, t1, t2, t9, t10, hlt, hg, T.Qj4, T.Qj2]) | (with_reducible (first | refine Qh fun K hK => ?_ | refine Qk ?_ | refine Qo ?_ | refine Qt ?_ | refine Qe ?_ | refine QA ?_ | refine QE ?_)) | ((with_reducible refine hK _ ?_); clear hK) | (refine Qj rfl ?_; simp only [↓reduceIte]))
        simp only [QO, Qp, Qv, upd, ↓reduceIte, Option.some.injEq, exists_eq_left']
        rw [he]
        exact .inr ⟨rfl, rfl⟩
    · have hkn : k = l.length := by omega
      subst hkn
      rw [List.drop_length] at he
      repeat (first | (((with_reducible refine Qa fun K E hK hE => ?_)); simp -implicitDefEqProofs only [Qf, Qb, Qi, OpW, aop, AS.ev, Qc, Qz, Nat.reduceLT, aBin, Option.map_some, QY, decide_false, Int.ofNat_lt, t9, t10, hlt]) | (with_reducible (first | refine Qh fun K hK => ?_ | refine Qo ?_ | refine Q1 ?_ | refine Qe ?_ | refine QS ?_ | refine QR ?_)) | ((with_reducible refine hK _ ?_); clear hK) | (clear hK; (with_reducible refine hK _ ?_); clear hK) | (refine Qj rfl ?_; simp only [↓reduceIte, Bool.false_eq_true]))
      simp only [QO, Qp, Qv, upd, ↓reduceIte, Option.some.injEq, exists_eq_left']
      rw [he]
      exact .inr ⟨rfl, rfl⟩
  · rw [hI]
    exact ⟨0, b, rfl, by omega, hb, rfl, rfl, rfl, rfl, rfl, rfl, rfl⟩
mutual
theorem T.Qkb : ∀ (t : T) (b d : Int), -1 ≤ b ∧ b ≤ 1000 → (t.run b d).1 = true → -1 ≤ (t.run b d).2 ∧ (t.run b d).2 ≤ 1000
  | .mk k i n l, b, d, hb, h => by
    rw [T.run] at h ⊢
    split at h
    · cases h
    rename_i hn
    rw [if_neg hn]
    split at h
    · rename_i hk; rw [if_pos hk]; exact ⟨by simp only; omega, by simp only; omega⟩
    rename_i hk; rw [if_neg hk]
    split at h
    · rename_i hk; rw [if_pos hk]; exact ⟨by simp only; omega, by simp only; omega⟩
    rename_i hk; rw [if_neg hk]
    split at h
    · rename_i hk2
      rw [if_pos hk2]
      split at h
      · cases h
      rename_i hk; rw [if_neg hk]
      split at h
      · cases h
      rename_i hk; rw [if_neg hk]
      exact Qcn l _ _ (by omega) h
    · cases h
theorem Qcn : ∀ (l : List T) (b d : Int), -1 ≤ b ∧ b ≤ 1000 → (runL l b d).1 = true → -1 ≤ (runL l b d).2 ∧ (runL l b d).2 ≤ 1000
  | [], b, d, hb, h => by simpa only [runL] using hb
  | t :: l, b, d, hb, h => by
    rw [runL] at h ⊢
    split at h
    · rename_i ht
      rw [if_pos ht]
      exact Qcn l _ _ (T.Qkb t b d hb ht) h
    · cases h
end
theorem XH (n : Nat) (b : Int) : (bud b).Below n := fun a ha => by
  simp [flat, AV.cells] at ha
  subst ha; exact .v _
theorem Qh2 : ∀ (dn : Nat) (t : T) (b : Int) (i : Nat), dn ≤ 1000 → -1 ≤ b → b ≤ 1000 → Chg Tryz.prog 139 [.ptr i 0 0, t.av, .i (dn : Int)] i (bud b) (.b (t.run b dn).1) (bud (t.run b dn).2) := by
  intro dn
  induction dn with
  | zero =>
    intro t b i hdn hb0 hb1 h hi
    have w1 : IntKind.i64.wrap (b - 1) = b - 1 := XZ (by omega)
    have f1 := fun x L => Qga hi x L
    have f2 := fun x y L => QfO hi x y L
    have f3 := fun x L => Qax (h := h) (i := i) x L
    have f4 := fun x => Y1 h i x
    have fb : ∀ b, bud b = .cells 149 1 [.agg [.i b]] := fun _ => rfl
    by_cases m0 : b - 1 < 0
    · have hn : (b - 1 < 0 ∨ ((0 : Nat) : Int) < 1) := .inl m0
      have R : t.run b ((0 : Nat) : Int) = (false, b - 1) := by
        rw [T.run_eq, if_pos hn]
      rw [R]
      refine Qg Tryz.func139 rfl Tryz.call139 Tryz.ntmps139 (congrArg Array.toList Tryz.results139) (by simp) ?_
      repeat (first | (((with_reducible refine Qa fun K E hK hE => ?_)); simp -implicitDefEqProofs only [Qf, Qb, Qi, OpW, aop, undef, AS.ev, Qc, QV, Qq, Qz, Qm, QC, List.getD_cons_zero, List.getD_cons_succ, AV.Qj3, Qr, Q3, QD, Xt, List.all_cons, List.all_nil, QB, Qw, QH, Bool.and_self, Bool.not_true, ↓reduceIte, List.length_cons, List.length_nil, Nat.reduceAdd, Nat.reduceLT, Nat.reduceLeDiff, Nat.reduceEqDiff, Nat.zero_add, Nat.add_zero, true_and, and_self, Ql, QI, QJ, Xb, QZ, aBin, List.getElem?_cons_zero, List.getElem?_cons_succ, List.set_cons_zero, Option.map_some, Option.bind_some, List.getElem?_toArray, List.nil_append, List.append_nil, List.take_zero, List.drop_succ_cons, List.drop_zero, QY, Ys, decide_true, Int.natCast_zero, Bool.false_eq_true, beq_false, T.Qj2, ti3, Yw, Q0, w1, f1, f2, f4, fb, m0, T.Qj2]) | (with_reducible (first | refine Qh fun K hK => ?_ | refine Qo ?_ | refine QA ?_)) | ((with_reducible refine hK _ ?_); clear hK) | (refine Qj rfl ?_; simp only [↓reduceIte]))
      simp only [QO, Qp, Qv, upd, ↓reduceIte, Option.some.injEq, exists_eq_left']
      exact Xi (XH _ _) (.keep (.v _)) ⟨rfl, rfl⟩
    · have hn : (b - 1 < 0 ∨ ((0 : Nat) : Int) < 1) := .inr (by omega)
      have d0 : (0 : Int) < 1 := by omega
      have R : t.run b ((0 : Nat) : Int) = (false, b - 1) := by
        rw [T.run_eq, if_pos hn]
      rw [R]
      refine Qg Tryz.func139 rfl Tryz.call139 Tryz.ntmps139 (congrArg Array.toList Tryz.results139) (by simp) ?_
      repeat (first | (((with_reducible refine Qa fun K E hK hE => ?_)); simp -implicitDefEqProofs only [Qf, Qb, Qi, OpW, aop, undef, AS.ev, Qc, QV, Qq, Qz, Qm, QC, List.getD_cons_zero, List.getD_cons_succ, AV.Qj3, Qr, Q3, QD, Xt, List.all_cons, List.all_nil, QB, Qw, QH, Bool.and_self, ↓reduceIte, List.length_cons, List.length_nil, Nat.reduceAdd, Nat.reduceLT, Nat.reduceLeDiff, Nat.reduceEqDiff, Nat.zero_add, Nat.add_zero, true_and, and_self, Ql, QI, QJ, Xb, QZ, aBin, List.getElem?_cons_zero, List.getElem?_cons_succ, List.set_cons_zero, Option.map_some, Option.bind_some, List.getElem?_toArray, List.nil_append, List.append_nil, List.take_zero, List.drop_succ_cons, List.drop_zero, QY, Ys, decide_true, decide_false, beq_self_eq_true, Int.natCast_zero, Bool.false_eq_true, T.Qj2, ti3, Yw, Q0, w1, f1, f2, f4, fb, m0, d0, T.Qj2]) | (with_reducible (first | refine Qh fun K hK => ?_ | refine Qo ?_ | refine QA ?_)) | ((with_reducible refine hK _ ?_); clear hK) | (refine Qj rfl ?_; simp only [↓reduceIte]))
      simp only [QO, Qp, Qv, upd, ↓reduceIte, Option.some.injEq, exists_eq_left']
      exact Xi (XH _ _) (.keep (.v _)) ⟨rfl, rfl⟩
  | succ dn ih =>
    intro t b i hdn hb0 hb1 h hi
    have w1 : IntKind.i64.wrap (b - 1) = b - 1 := XZ (by omega)
    have f1 := fun x L => Qga hi x L
    have f2 := fun x y L => QfO hi x y L
    have f3 := fun x L => Qax (h := h) (i := i) x L
    have f4 := fun x => Y1 h i x
    have fb : ∀ b, bud b = .cells 149 1 [.agg [.i b]] := fun _ => rfl
    have wd : IntKind.i64.wrap (((dn + 1 : Nat) : Int) - 1) = (dn : Int) := by rw [XZ (by omega)]; omega
    by_cases m0 : b - 1 < 0
    · have hn : (b - 1 < 0 ∨ ((dn + 1 : Nat) : Int) < 1) := .inl m0
      have R : t.run b ((dn + 1 : Nat) : Int) = (false, b - 1) := by
        rw [T.run_eq, if_pos hn]
      rw [R]
      refine Qg Tryz.func139 rfl Tryz.call139 Tryz.ntmps139 (congrArg Array.toList Tryz.results139) (by simp) ?_
      repeat (first | (((with_reducible refine Qa fun K E hK hE => ?_)); simp -implicitDefEqProofs only [Qf, Qb, Qi, OpW, aop, undef, AS.ev, Qc, QV, Qq, Qz, Qm, QC, List.getD_cons_zero, List.getD_cons_succ, AV.Qj3, Qr, Q3, QD, Xt, List.all_cons, List.all_nil, QB, Qw, QH, Bool.and_self, Bool.not_true, ↓reduceIte, List.length_cons, List.length_nil, Nat.reduceAdd, Nat.reduceLT, Nat.reduceLeDiff, Nat.reduceEqDiff, Nat.zero_add, Nat.add_zero, true_and, and_self, Ql, QI, QJ, Xb, QZ, aBin, List.getElem?_cons_zero, List.getElem?_cons_succ, List.set_cons_zero, Option.map_some, Option.bind_some, List.getElem?_toArray, List.nil_append, List.append_nil, List.take_zero, List.drop_succ_cons, List.drop_zero, QY, Ys, decide_true, Bool.false_eq_true, beq_false, T.Qj2, ti3, Yw, Q0, w1, f1, f2, f4, fb, m0, T.Qj2]) | (with_reducible (first | refine Qh fun K hK => ?_ | refine Qo ?_ | refine QA ?_)) | ((with_reducible refine hK _ ?_); clear hK) | (refine Qj rfl ?_; simp only [↓reduceIte]))
      simp only [QO, Qp, Qv, upd, ↓reduceIte, Option.some.injEq, exists_eq_left']
      exact Xi (XH _ _) (.keep (.v _)) ⟨rfl, rfl⟩
    have d0 : ¬ ((dn + 1 : Nat) : Int) < 1 := by omega
    have hn : ¬ (b - 1 < 0 ∨ ((dn + 1 : Nat) : Int) < 1) := by omega
    by_cases k0 : t.kind = 0
    · have z0 : (t.kind == 0) = true := by simp [k0]
      by_cases c1 : t.int ≥ -2147483648
      rotate_left
      · have e1 : ¬ -2147483648 ≤ t.int := by omega
        have R : t.run b ((dn + 1 : Nat) : Int) = (false, b - 1) := by
          rw [T.run_eq, if_neg hn, if_pos k0]; simp [e1]
        rw [R]
        refine Qg Tryz.func139 rfl Tryz.call139 Tryz.ntmps139 (congrArg Array.toList Tryz.results139) (by simp) ?_
        repeat (first | (((with_reducible refine Qa fun K E hK hE => ?_)); simp -implicitDefEqProofs only [Qf, Qb, Qi, OpW, aop, undef, AS.ev, Qc, QV, Qq, Qz, Qm, QC, List.getD_cons_zero, List.getD_cons_succ, AV.Qj3, Qr, Q3, QD, Xt, List.all_cons, List.all_nil, QB, Qw, QH, Bool.and_self, ↓reduceIte, List.length_cons, List.length_nil, Nat.reduceAdd, Nat.reduceLT, Nat.reduceLeDiff, Nat.reduceEqDiff, Nat.zero_add, Nat.add_zero, true_and, and_self, Ql, QI, QJ, Xb, QZ, aBin, List.getElem?_cons_zero, List.getElem?_cons_succ, List.set_cons_zero, Option.map_some, Option.bind_some, List.getElem?_toArray, List.nil_append, List.append_nil, List.take_zero, List.drop_succ_cons, List.drop_zero, QU, QY, Ze, Ys, decide_false, beq_self_eq_true, Bool.false_eq_true, beq_true, T.Qj2, ti3, Xw, Ya, Yw, Q0, w1, f1, f2, f3, f4, fb, m0, d0, T.Qj2, z0, c1]) | (with_reducible (first | refine Qh fun K hK => ?_ | refine Qk ?_ | refine Qo ?_ | refine Qt ?_ | refine Qe ?_ | refine QA ?_ | refine QE ?_)) | ((with_reducible refine hK _ ?_); clear hK) | (refine Qj rfl ?_; simp only [↓reduceIte, Bool.false_eq_true]))
        simp only [QO, Qp, Qv, upd, ↓reduceIte, Option.some.injEq, exists_eq_left']
        exact Xi (XH _ _) (.keep (.v _)) ⟨rfl, rfl⟩
      have e1 : -2147483648 ≤ t.int := by omega
      by_cases c2 : t.int ≤ 2147483648
      rotate_left
      · skip
        have R : t.run b ((dn + 1 : Nat) : Int) = (false, b - 1) := by
          rw [T.run_eq, if_neg hn, if_pos k0]; simp [e1, c2]
        rw [R]
        refine Qg Tryz.func139 rfl Tryz.call139 Tryz.ntmps139 (congrArg Array.toList Tryz.results139) (by simp) ?_
        repeat (first | (((with_reducible refine Qa fun K E hK hE => ?_)); simp -implicitDefEqProofs only [Qf, Qb, Qi, OpW, aop, undef, AS.ev, Qc, QV, Qq, Qz, Qm, QC, List.getD_cons_zero, List.getD_cons_succ, AV.Qj3, Qr, Q3, QD, Xt, List.all_cons, List.all_nil, QB, Qw, QH, Bool.and_self, ↓reduceIte, List.length_cons, List.length_nil, Nat.reduceAdd, Nat.reduceLT, Nat.reduceLeDiff, Nat.reduceEqDiff, Nat.zero_add, Nat.add_zero, true_and, and_self, Ql, QI, QJ, Xb, QZ, aBin, List.getElem?_cons_zero, List.getElem?_cons_succ, List.set_cons_zero, Option.map_some, Option.bind_some, List.getElem?_toArray, List.nil_append, List.append_nil, List.take_zero, List.drop_succ_cons, List.drop_zero, QU, QY, YB, Ze, Ys, decide_true, decide_false, beq_self_eq_true, Bool.false_eq_true, beq_true, T.Qj2, ti3, Xw, Ya, Yw, Q0, w1, f1, f2, f3, f4, fb, m0, d0, T.Qj2, z0, c1, c2]) | (with_reducible (first | refine Qh fun K hK => ?_ | refine Qk ?_ | refine Qo ?_ | refine Qt ?_ | refine Qe ?_ | refine QA ?_ | refine QE ?_)) | ((with_reducible refine hK _ ?_); clear hK) | (refine Qj rfl ?_; simp only [↓reduceIte, Bool.false_eq_true]))
        simp only [QO, Qp, Qv, upd, ↓reduceIte, Option.some.injEq, exists_eq_left']
        exact Xi (XH _ _) (.keep (.v _)) ⟨rfl, rfl⟩
      cases c3 : YH t.name with
      | false =>
        have c3' : (t.name.toList == ({ data := #[] } : ByteArray).toList) = false := c3
        have R : t.run b ((dn + 1 : Nat) : Int) = (false, b - 1) := by
          rw [T.run_eq, if_neg hn, if_pos k0]; simp [e1, c2, c3]
        rw [R]
        refine Qg Tryz.func139 rfl Tryz.call139 Tryz.ntmps139 (congrArg Array.toList Tryz.results139) (by simp) ?_
        repeat (first | (((with_reducible refine Qa fun K E hK hE => ?_)); simp -implicitDefEqProofs only [Qf, Qb, Qi, OpW, aop, undef, AS.ev, Qc, QV, Qq, Qz, QM, Qm, QC, List.getD_cons_zero, List.getD_cons_succ, AV.Qj3, Qr, Q3, QD, Xt, List.all_cons, List.all_nil, QB, Qw, QH, Bool.and_self, ↓reduceIte, List.length_cons, List.length_nil, Nat.reduceAdd, Nat.reduceLT, Nat.reduceLeDiff, Nat.reduceEqDiff, Nat.zero_add, Nat.add_zero, true_and, and_self, Ql, QI, QJ, Xb, QZ, aBin, List.getElem?_cons_zero, List.getElem?_cons_succ, List.set_cons_zero, Option.map_some, Option.bind_some, List.getElem?_toArray, List.nil_append, List.append_nil, List.take_zero, List.drop_succ_cons, List.drop_zero, QU, QY, YB, Ze, Ys, Xm, decide_true, decide_false, beq_self_eq_true, Bool.false_eq_true, beq_true, T.Qj2, ti3, ti9, Xw, Ya, X6, Yw, Q0, w1, f1, f2, f3, f4, fb, m0, d0, T.Qj2, z0, c1, c2, c3']) | (with_reducible (first | refine Qh fun K hK => ?_ | refine Qk ?_ | refine Qo ?_ | refine Qt ?_ | refine Qe ?_ | refine QA ?_ | refine QE ?_)) | ((with_reducible refine hK _ ?_); clear hK) | (refine Qj rfl ?_; simp only [↓reduceIte, Bool.false_eq_true]))
        simp only [QO, Qp, Qv, upd, ↓reduceIte, Option.some.injEq, exists_eq_left']
        exact Xi (XH _ _) (.keep (.v _)) ⟨rfl, rfl⟩
      | true =>
        have c3' : (t.name.toList == ({ data := #[] } : ByteArray).toList) = true := c3
        cases hl : t.args with
        | nil =>
          have c4 : ((0 : Int) == 0) = true := rfl
          have R : t.run b ((dn + 1 : Nat) : Int) = (true, b - 1) := by
            rw [T.run_eq, if_neg hn, if_pos k0]; simp [e1, c2, c3, hl]
          rw [R]
          refine Qg Tryz.func139 rfl Tryz.call139 Tryz.ntmps139 (congrArg Array.toList Tryz.results139) (by simp) ?_
          repeat (first | (((with_reducible refine Qa fun K E hK hE => ?_)); simp -implicitDefEqProofs only [Qf, Qb, Qi, OpW, aop, undef, AS.ev, Qc, QV, Qq, Qz, QM, Qm, QC, List.getD_cons_zero, List.getD_cons_succ, AV.Qj3, Qr, Q3, QD, Xt, List.all_cons, List.all_nil, QB, Qw, QH, Bool.and_self, ↓reduceIte, List.length_cons, List.length_nil, Nat.reduceAdd, Nat.reduceLT, Nat.reduceLeDiff, Nat.reduceEqDiff, Nat.zero_add, Nat.add_zero, true_and, and_self, Ql, QI, QJ, Xb, QZ, aBin, aLen, List.getElem?_cons_zero, List.getElem?_cons_succ, List.set_cons_zero, Option.map_some, Option.bind_some, List.getElem?_toArray, List.nil_append, List.append_nil, List.take_zero, List.drop_succ_cons, List.drop_zero, QU, QY, YB, Ze, Ys, Xm, goInt, decide_true, decide_false, beq_self_eq_true, Int.natCast_zero, Bool.false_eq_true, T.Qj2, ti3, ti9, ti44, un44, Xw, Ya, X6, XL, Yw, Q0, w1, f1, f2, f3, f4, fb, m0, d0, T.Qj2, z0, c1, c2, c3', hl, Qh9]) | (with_reducible (first | refine Qh fun K hK => ?_ | refine Qk ?_ | refine Qo ?_ | refine Qt ?_ | refine Qe ?_ | refine QA ?_ | refine QE ?_)) | ((with_reducible refine hK _ ?_); clear hK) | (refine Qj rfl ?_; simp only [↓reduceIte, Bool.false_eq_true]))
          simp only [QO, Qp, Qv, upd, ↓reduceIte, Option.some.injEq, exists_eq_left']
          exact Xi (XH _ _) (.keep (.v _)) ⟨rfl, rfl⟩
        | cons a l =>
          have c4 : (((l.length + 1 : Nat) : Int) == 0) = false := by simp; omega
          have R : t.run b ((dn + 1 : Nat) : Int) = (false, b - 1) := by
            rw [T.run_eq, if_neg hn, if_pos k0]; simp [e1, c2, c3, hl]
          rw [R]
          refine Qg Tryz.func139 rfl Tryz.call139 Tryz.ntmps139 (congrArg Array.toList Tryz.results139) (by simp) ?_
          repeat (first | (((with_reducible refine Qa fun K E hK hE => ?_)); simp -implicitDefEqProofs only [Qf, Qb, Qi, OpW, aop, undef, AS.ev, Qc, QV, Qq, Qz, QM, Qm, QC, List.getD_cons_zero, List.getD_cons_succ, AV.Qj3, Qr, Q3, QD, Xt, List.all_cons, List.all_nil, QB, Qw, QH, Bool.and_self, ↓reduceIte, List.length_cons, List.length_nil, Nat.reduceAdd, Nat.reduceLT, Nat.reduceLeDiff, Nat.reduceEqDiff, Nat.zero_add, Nat.add_zero, true_and, and_self, Ql, QI, QJ, Xb, QZ, aBin, aLen, List.getElem?_cons_zero, List.getElem?_cons_succ, List.set_cons_zero, Option.map_some, Option.bind_some, List.getElem?_toArray, List.nil_append, List.append_nil, List.take_zero, List.drop_succ_cons, List.drop_zero, QU, QY, YB, Ze, Ys, Xm, goInt, decide_true, decide_false, beq_self_eq_true, Bool.false_eq_true, T.Qj2, QG, ti3, ti9, ti44, un44, Xw, Ya, X6, XL, Yw, Q0, w1, f1, f2, f3, f4, fb, m0, d0, T.Qj2, z0, c1, c2, c3', hl, QG, List.length_cons, c4]) | (with_reducible (first | refine Qh fun K hK => ?_ | refine Qk ?_ | refine Qo ?_ | refine Qt ?_ | refine Qe ?_ | refine QA ?_ | refine QE ?_)) | ((with_reducible refine hK _ ?_); clear hK) | (refine Qj rfl ?_; simp only [↓reduceIte, Bool.false_eq_true]))
          simp only [QO, Qp, Qv, upd, ↓reduceIte, Option.some.injEq, exists_eq_left']
          exact Xi (XH _ _) (.keep (.v _)) ⟨rfl, rfl⟩
    have z0 : (t.kind == 0) = false := by simp [k0]
    by_cases k1 : t.kind = 1
    · have z1 : (t.kind == 1) = true := by simp [k1]
      by_cases c1 : t.int ≥ 0
      rotate_left
      · have e1 : ¬ 0 ≤ t.int := by omega
        have R : t.run b ((dn + 1 : Nat) : Int) = (false, b - 1) := by
          rw [T.run_eq, if_neg hn, if_neg k0, if_pos k1]; simp [e1]
        rw [R]
        refine Qg Tryz.func139 rfl Tryz.call139 Tryz.ntmps139 (congrArg Array.toList Tryz.results139) (by simp) ?_
        repeat (first | (((with_reducible refine Qa fun K E hK hE => ?_)); simp -implicitDefEqProofs only [Qf, Qb, Qi, OpW, aop, undef, AS.ev, Qc, QV, Qq, Qz, Qm, QC, List.getD_cons_zero, List.getD_cons_succ, AV.Qj3, Qr, Q3, QD, Xt, List.all_cons, List.all_nil, QB, Qw, QH, Bool.and_self, ↓reduceIte, List.length_cons, List.length_nil, Nat.reduceAdd, Nat.reduceLT, Nat.reduceLeDiff, Nat.reduceEqDiff, Nat.zero_add, Nat.add_zero, true_and, and_self, Ql, QI, QJ, Xb, QZ, aBin, List.getElem?_cons_zero, List.getElem?_cons_succ, List.set_cons_zero, Option.map_some, Option.bind_some, List.getElem?_toArray, List.nil_append, List.append_nil, List.take_zero, List.drop_succ_cons, List.drop_zero, QU, QY, Ze, Ys, decide_false, beq_self_eq_true, Bool.false_eq_true, beq_true, T.Qj2, ti3, Xw, Ya, Yw, Q0, w1, f1, f2, f3, f4, fb, m0, d0, T.Qj2, z0, z1, c1]) | (with_reducible (first | refine Qh fun K hK => ?_ | refine Qk ?_ | refine Qo ?_ | refine Qt ?_ | refine Qe ?_ | refine QA ?_ | refine QE ?_)) | ((with_reducible refine hK _ ?_); clear hK) | (refine Qj rfl ?_; simp only [↓reduceIte, Bool.false_eq_true]))
        simp only [QO, Qp, Qv, upd, ↓reduceIte, Option.some.injEq, exists_eq_left']
        exact Xi (XH _ _) (.keep (.v _)) ⟨rfl, rfl⟩
      have e1 : 0 ≤ t.int := by omega
      by_cases c2 : t.int ≤ 1048576
      rotate_left
      · skip
        have R : t.run b ((dn + 1 : Nat) : Int) = (false, b - 1) := by
          rw [T.run_eq, if_neg hn, if_neg k0, if_pos k1]; simp [e1, c2]
        rw [R]
        refine Qg Tryz.func139 rfl Tryz.call139 Tryz.ntmps139 (congrArg Array.toList Tryz.results139) (by simp) ?_
        repeat (first | (((with_reducible refine Qa fun K E hK hE => ?_)); simp -implicitDefEqProofs only [Qf, Qb, Qi, OpW, aop, undef, AS.ev, Qc, QV, Qq, Qz, Qm, QC, List.getD_cons_zero, List.getD_cons_succ, AV.Qj3, Qr, Q3, QD, Xt, List.all_cons, List.all_nil, QB, Qw, QH, Bool.and_self, ↓reduceIte, List.length_cons, List.length_nil, Nat.reduceAdd, Nat.reduceLT, Nat.reduceLeDiff, Nat.reduceEqDiff, Nat.zero_add, Nat.add_zero, true_and, and_self, Ql, QI, QJ, Xb, QZ, aBin, List.getElem?_cons_zero, List.getElem?_cons_succ, List.set_cons_zero, Option.map_some, Option.bind_some, List.getElem?_toArray, List.nil_append, List.append_nil, List.take_zero, List.drop_succ_cons, List.drop_zero, QU, QY, YB, Ze, Ys, decide_true, decide_false, beq_self_eq_true, Bool.false_eq_true, beq_true, T.Qj2, ti3, Xw, Ya, Yw, Q0, w1, f1, f2, f3, f4, fb, m0, d0, T.Qj2, z0, z1, c1, c2]) | (with_reducible (first | refine Qh fun K hK => ?_ | refine Qk ?_ | refine Qo ?_ | refine Qt ?_ | refine Qe ?_ | refine QA ?_ | refine QE ?_)) | ((with_reducible refine hK _ ?_); clear hK) | (refine Qj rfl ?_; simp only [↓reduceIte, Bool.false_eq_true]))
        simp only [QO, Qp, Qv, upd, ↓reduceIte, Option.some.injEq, exists_eq_left']
        exact Xi (XH _ _) (.keep (.v _)) ⟨rfl, rfl⟩
      cases c3 : YH t.name with
      | false =>
        have c3' : (t.name.toList == ({ data := #[] } : ByteArray).toList) = false := c3
        have R : t.run b ((dn + 1 : Nat) : Int) = (false, b - 1) := by
          rw [T.run_eq, if_neg hn, if_neg k0, if_pos k1]; simp [e1, c2, c3]
        rw [R]
        refine Qg Tryz.func139 rfl Tryz.call139 Tryz.ntmps139 (congrArg Array.toList Tryz.results139) (by simp) ?_
        repeat (first | (((with_reducible refine Qa fun K E hK hE => ?_)); simp -implicitDefEqProofs only [Qf, Qb, Qi, OpW, aop, undef, AS.ev, Qc, QV, Qq, Qz, QM, Qm, QC, List.getD_cons_zero, List.getD_cons_succ, AV.Qj3, Qr, Q3, QD, Xt, List.all_cons, List.all_nil, QB, Qw, QH, Bool.and_self, ↓reduceIte, List.length_cons, List.length_nil, Nat.reduceAdd, Nat.reduceLT, Nat.reduceLeDiff, Nat.reduceEqDiff, Nat.zero_add, Nat.add_zero, true_and, and_self, Ql, QI, QJ, Xb, QZ, aBin, List.getElem?_cons_zero, List.getElem?_cons_succ, List.set_cons_zero, Option.map_some, Option.bind_some, List.getElem?_toArray, List.nil_append, List.append_nil, List.take_zero, List.drop_succ_cons, List.drop_zero, QU, QY, YB, Ze, Ys, Xm, decide_true, decide_false, beq_self_eq_true, Bool.false_eq_true, beq_true, T.Qj2, ti3, ti9, Xw, Ya, X6, Yw, Q0, w1, f1, f2, f3, f4, fb, m0, d0, T.Qj2, z0, z1, c1, c2, c3']) | (with_reducible (first | refine Qh fun K hK => ?_ | refine Qk ?_ | refine Qo ?_ | refine Qt ?_ | refine Qe ?_ | refine QA ?_ | refine QE ?_)) | ((with_reducible refine hK _ ?_); clear hK) | (refine Qj rfl ?_; simp only [↓reduceIte, Bool.false_eq_true]))
        simp only [QO, Qp, Qv, upd, ↓reduceIte, Option.some.injEq, exists_eq_left']
        exact Xi (XH _ _) (.keep (.v _)) ⟨rfl, rfl⟩
      | true =>
        have c3' : (t.name.toList == ({ data := #[] } : ByteArray).toList) = true := c3
        cases hl : t.args with
        | nil =>
          have c4 : ((0 : Int) == 0) = true := rfl
          have R : t.run b ((dn + 1 : Nat) : Int) = (true, b - 1) := by
            rw [T.run_eq, if_neg hn, if_neg k0, if_pos k1]; simp [e1, c2, c3, hl]
          rw [R]
          refine Qg Tryz.func139 rfl Tryz.call139 Tryz.ntmps139 (congrArg Array.toList Tryz.results139) (by simp) ?_
          repeat (first | (((with_reducible refine Qa fun K E hK hE => ?_)); simp -implicitDefEqProofs only [Qf, Qb, Qi, OpW, aop, undef, AS.ev, Qc, QV, Qq, Qz, QM, Qm, QC, List.getD_cons_zero, List.getD_cons_succ, AV.Qj3, Qr, Q3, QD, Xt, List.all_cons, List.all_nil, QB, Qw, QH, Bool.and_self, ↓reduceIte, List.length_cons, List.length_nil, Nat.reduceAdd, Nat.reduceLT, Nat.reduceLeDiff, Nat.reduceEqDiff, Nat.zero_add, Nat.add_zero, true_and, and_self, Ql, QI, QJ, Xb, QZ, aBin, aLen, List.getElem?_cons_zero, List.getElem?_cons_succ, List.set_cons_zero, Option.map_some, Option.bind_some, List.getElem?_toArray, List.nil_append, List.append_nil, List.take_zero, List.drop_succ_cons, List.drop_zero, QU, QY, YB, Ze, Ys, Xm, goInt, decide_true, decide_false, beq_self_eq_true, Int.natCast_zero, Bool.false_eq_true, T.Qj2, ti3, ti9, ti44, un44, Xw, Ya, X6, XL, Yw, Q0, w1, f1, f2, f3, f4, fb, m0, d0, T.Qj2, z0, z1, c1, c2, c3', hl, Qh9]) | (with_reducible (first | refine Qh fun K hK => ?_ | refine Qk ?_ | refine Qo ?_ | refine Qt ?_ | refine Qe ?_ | refine QA ?_ | refine QE ?_)) | ((with_reducible refine hK _ ?_); clear hK) | (refine Qj rfl ?_; simp only [↓reduceIte, Bool.false_eq_true]))
          simp only [QO, Qp, Qv, upd, ↓reduceIte, Option.some.injEq, exists_eq_left']
          exact Xi (XH _ _) (.keep (.v _)) ⟨rfl, rfl⟩
        | cons a l =>
          have c4 : (((l.length + 1 : Nat) : Int) == 0) = false := by simp; omega
          have R : t.run b ((dn + 1 : Nat) : Int) = (false, b - 1) := by
            rw [T.run_eq, if_neg hn, if_neg k0, if_pos k1]; simp [e1, c2, c3, hl]
          rw [R]
          refine Qg Tryz.func139 rfl Tryz.call139 Tryz.ntmps139 (congrArg Array.toList Tryz.results139) (by simp) ?_
          repeat (first | (((with_reducible refine Qa fun K E hK hE => ?_)); simp -implicitDefEqProofs only [Qf, Qb, Qi, OpW, aop, undef, AS.ev, Qc, QV, Qq, Qz, QM, Qm, QC, List.getD_cons_zero, List.getD_cons_succ, AV.Qj3, Qr, Q3, QD, Xt, List.all_cons, List.all_nil, QB, Qw, QH, Bool.and_self, ↓reduceIte, List.length_cons, List.length_nil, Nat.reduceAdd, Nat.reduceLT, Nat.reduceLeDiff, Nat.reduceEqDiff, Nat.zero_add, Nat.add_zero, true_and, and_self, Ql, QI, QJ, Xb, QZ, aBin, aLen, List.getElem?_cons_zero, List.getElem?_cons_succ, List.set_cons_zero, Option.map_some, Option.bind_some, List.getElem?_toArray, List.nil_append, List.append_nil, List.take_zero, List.drop_succ_cons, List.drop_zero, QU, QY, YB, Ze, Ys, Xm, goInt, decide_true, decide_false, beq_self_eq_true, Bool.false_eq_true, T.Qj2, QG, ti3, ti9, ti44, un44, Xw, Ya, X6, XL, Yw, Q0, w1, f1, f2, f3, f4, fb, m0, d0, T.Qj2, z0, z1, c1, c2, c3', hl, QG, List.length_cons, c4]) | (with_reducible (first | refine Qh fun K hK => ?_ | refine Qk ?_ | refine Qo ?_ | refine Qt ?_ | refine Qe ?_ | refine QA ?_ | refine QE ?_)) | ((with_reducible refine hK _ ?_); clear hK) | (refine Qj rfl ?_; simp only [↓reduceIte, Bool.false_eq_true]))
          simp only [QO, Qp, Qv, upd, ↓reduceIte, Option.some.injEq, exists_eq_left']
          exact Xi (XH _ _) (.keep (.v _)) ⟨rfl, rfl⟩
    have z1 : (t.kind == 1) = false := by simp [k1]
    by_cases k2 : t.kind = 2
    rotate_left
    · have z2 : (t.kind == 2) = false := by simp [k2]
      have R : t.run b ((dn + 1 : Nat) : Int) = (false, b - 1) := by
        rw [T.run_eq, if_neg hn, if_neg k0, if_neg k1, if_neg k2]
      rw [R]
      refine Qg Tryz.func139 rfl Tryz.call139 Tryz.ntmps139 (congrArg Array.toList Tryz.results139) (by simp) ?_
      repeat (first | (((with_reducible refine Qa fun K E hK hE => ?_)); simp -implicitDefEqProofs only [Qf, Qb, Qi, OpW, aop, undef, AS.ev, Qc, QV, Qq, Qz, Qm, QC, List.getD_cons_zero, List.getD_cons_succ, AV.Qj3, Qr, Q3, QD, Xt, List.all_cons, List.all_nil, QB, Qw, QH, Bool.and_self, ↓reduceIte, List.length_cons, List.length_nil, Nat.reduceAdd, Nat.reduceLT, Nat.reduceLeDiff, Nat.reduceEqDiff, Nat.zero_add, Nat.add_zero, true_and, and_self, Ql, QI, QJ, Xb, QZ, aBin, List.getElem?_cons_zero, List.getElem?_cons_succ, List.set_cons_zero, Option.map_some, Option.bind_some, List.getElem?_toArray, List.nil_append, List.append_nil, List.take_zero, List.drop_succ_cons, List.drop_zero, QU, QY, Ys, decide_false, beq_self_eq_true, Bool.false_eq_true, T.Qj2, ti3, Xw, Yw, Q0, w1, f1, f2, f3, f4, fb, m0, d0, T.Qj2, z0, z1, z2]) | (with_reducible (first | refine Qh fun K hK => ?_ | refine Qk ?_ | refine Qo ?_ | refine Qt ?_ | refine Qe ?_ | refine Qs ?_)) | ((with_reducible refine hK _ ?_); clear hK) | (refine Qj rfl ?_; simp only [↓reduceIte, Bool.false_eq_true]))
      simp only [QO, Qp, Qv, upd, ↓reduceIte, Option.some.injEq, exists_eq_left']
      exact Xi (XH _ _) (.keep (.v _)) ⟨rfl, rfl⟩
    have z2 : (t.kind == 2) = true := by simp [k2]
    by_cases i0 : t.int = 0
    rotate_left
    · have y0 : (t.int != 0) = true := by simp [i0]
      have R : t.run b ((dn + 1 : Nat) : Int) = (false, b - 1) := by
        rw [T.run_eq, if_neg hn, if_neg k0, if_neg k1, if_pos k2, if_pos (.inl i0)]
      rw [R]
      refine Qg Tryz.func139 rfl Tryz.call139 Tryz.ntmps139 (congrArg Array.toList Tryz.results139) (by simp) ?_
      repeat (first | (((with_reducible refine Qa fun K E hK hE => ?_)); simp -implicitDefEqProofs only [Qf, Qb, Qi, OpW, aop, undef, AS.ev, Qc, QV, Qq, Qz, Qm, QC, List.getD_cons_zero, List.getD_cons_succ, AV.Qj3, Qr, Q3, QD, Xt, List.all_cons, List.all_nil, QB, Qw, QH, Bool.and_self, Bool.not_true, ↓reduceIte, List.length_cons, List.length_nil, Nat.reduceAdd, Nat.reduceLT, Nat.reduceLeDiff, Nat.reduceEqDiff, Nat.zero_add, Nat.add_zero, true_and, and_self, Ql, QI, QJ, Xb, QZ, aBin, List.getElem?_cons_zero, List.getElem?_cons_succ, List.set_cons_zero, Option.map_some, Option.bind_some, List.getElem?_toArray, List.nil_append, List.append_nil, List.take_zero, List.drop_succ_cons, List.drop_zero, QU, XJ, QY, Ys, decide_false, beq_self_eq_true, Bool.false_eq_true, beq_false, T.Qj2, ti3, Xw, Ya, Yw, Q0, w1, f1, f2, f3, f4, fb, m0, d0, T.Qj2, z0, z1, z2, y0]) | (with_reducible (first | refine Qh fun K hK => ?_ | refine Qk ?_ | refine Qo ?_ | refine Qt ?_ | refine Qe ?_ | refine QA ?_ | refine QE ?_)) | ((with_reducible refine hK _ ?_); clear hK) | (refine Qj rfl ?_; simp only [↓reduceIte, Bool.false_eq_true]))
      simp only [QO, Qp, Qv, upd, ↓reduceIte, Option.some.injEq, exists_eq_left']
      exact Xi (XH _ _) (.keep (.v _)) ⟨rfl, rfl⟩
    have y0 : (t.int != 0) = false := by simp [i0]
    by_cases a6 : t.args.length > 6
    · have y6 : (t.args.length : Int) > 6 := by omega
      have R : t.run b ((dn + 1 : Nat) : Int) = (false, b - 1) := by
        rw [T.run_eq, if_neg hn, if_neg k0, if_neg k1, if_pos k2, if_pos (.inr a6)]
      rw [R]
      refine Qg Tryz.func139 rfl Tryz.call139 Tryz.ntmps139 (congrArg Array.toList Tryz.results139) (by simp) ?_
      repeat (first | (((with_reducible refine Qa fun K E hK hE => ?_)); simp -implicitDefEqProofs only [Qf, Qb, Qi, OpW, aop, undef, AS.ev, Qc, QV, Qq, Qz, Qm, QC, List.getD_cons_zero, List.getD_cons_succ, AV.Qj3, Qr, Q3, QD, Xt, List.all_cons, List.all_nil, QB, Qw, QH, Bool.and_self, ↓reduceIte, List.length_cons, List.length_nil, Nat.reduceAdd, Nat.reduceLT, Nat.reduceLeDiff, Nat.reduceEqDiff, Nat.zero_add, Nat.add_zero, true_and, and_self, Ql, QI, QJ, Xb, QZ, aBin, aLen, List.getElem?_cons_zero, List.getElem?_cons_succ, List.set_cons_zero, Option.map_some, Option.bind_some, List.getElem?_toArray, List.nil_append, List.append_nil, List.take_zero, List.drop_succ_cons, List.drop_zero, QU, XJ, QY, Q6, Ys, goInt, decide_true, decide_false, beq_self_eq_true, Bool.false_eq_true, T.Qj2, QG, ti3, ti44, un44, Xw, Ya, XL, Yw, Q0, w1, f1, f2, f3, f4, fb, m0, d0, T.Qj2, z0, z1, z2, y0, y6, QG]) | (with_reducible (first | refine Qh fun K hK => ?_ | refine Qk ?_ | refine Qo ?_ | refine Qt ?_ | refine Qe ?_ | refine QA ?_ | refine QE ?_)) | ((with_reducible refine hK _ ?_); clear hK) | (refine Qj rfl ?_; simp only [↓reduceIte, Bool.false_eq_true]))
      simp only [QO, Qp, Qv, upd, ↓reduceIte, Option.some.injEq, exists_eq_left']
      exact Xi (XH _ _) (.keep (.v _)) ⟨rfl, rfl⟩
    have y6 : ¬ (t.args.length : Int) > 6 := by omega
    have a6' : ¬ 6 < t.args.length := a6
    have cr := QaW t.name
    have co := QdU t.name
    have er : (decide (QdR 1 t.name) && !resB t.name) = Zj t.name := rfl
    rw [er] at cr
    have hind := fun b2 hb => QhE dn (fun t b i h0 h1 => ih t b i (by omega) h0 h1) t.args (by omega) b2 i hb (fun t b hb h => T.Qkb t b dn hb h)
    have ca := (hind (b - 1) (by omega)).app hi [.cells 69 4 [t.av]]
    rw [fb, fb] at ca
    cases hr : Zj t.name with
    | true =>
      rw [hr] at cr
      have R : t.run b ((dn + 1 : Nat) : Int) = runL t.args (b - 1) (dn : Int) := by
        rw [T.run_eq, if_neg hn, if_neg k0, if_neg k1, if_pos k2, if_neg (show ¬ (t.int ≠ 0 ∨ 6 < t.args.length) by omega), hr, if_neg (by simp)]; rw [show (((dn + 1 : Nat) : Int) - 1) = (dn : Int) by omega]
      rw [R]
      refine Qg Tryz.func139 rfl Tryz.call139 Tryz.ntmps139 (congrArg Array.toList Tryz.results139) (by simp) ?_
      repeat (first | ((first | (with_reducible (first | refine Qa fun K E hK hE => ?_ | refine Qy cr ?_ | refine FunW.ret (FunW.call ca) ?_))); simp -implicitDefEqProofs only [Qf, Qb, Qi, OpW, QW, aop, undef, AS.ev, Qc, QV, Qq, Qz, Qm, QC, List.getD_cons_zero, List.getD_cons_succ, AV.Qj3, Qr, Q3, QD, Xt, List.all_cons, List.all_nil, QB, Qw, QH, Bool.and_self, Bool.not_true, ↓reduceIte, List.length_cons, List.length_nil, Nat.reduceAdd, Nat.reduceLT, Nat.reduceLeDiff, Nat.reduceEqDiff, Nat.zero_add, Nat.add_zero, true_and, and_self, Ql, QI, QJ, Xb, QZ, aBin, aLen, List.getElem?_cons_zero, List.getElem?_cons_succ, List.set_cons_zero, Option.map_some, Option.bind_some, List.getElem?_toArray, List.map_cons, List.map_nil, List.nil_append, List.append_nil, List.take_zero, List.drop_succ_cons, List.drop_zero, QU, XJ, QY, Q6, Ys, XM, goInt, decide_false, beq_self_eq_true, Bool.false_eq_true, beq_true, T.Qj2, QG, ti3, ti9, ti44, un44, Xw, Ya, X6, XL, Yw, Q0, w1, f1, f2, f3, f4, fb, m0, d0, T.Qj2, z0, z1, z2, y0, y6, QG, wd]) | (with_reducible (first | refine Qh fun K hK => ?_ | refine Qk ?_ | refine Qo ?_ | refine Qt ?_ | refine Qe ?_ | refine QA ?_ | refine QE ?_)) | ((with_reducible refine hK _ ?_); clear hK) | (refine Qj rfl ?_; simp only [↓reduceIte, Bool.false_eq_true]))
      simp only [QO, Qp, Qv, upd, ↓reduceIte, Option.some.injEq, exists_eq_left']
      exact Xi (XH _ _) (.keep (.v _)) ⟨rfl, rfl⟩
    | false =>
      rw [hr] at cr
      cases ho : opB t.name with
      | false =>
        rw [ho] at co
        have R : t.run b ((dn + 1 : Nat) : Int) = (false, b - 1) := by
          rw [T.run_eq, if_neg hn, if_neg k0, if_neg k1, if_pos k2, if_neg (show ¬ (t.int ≠ 0 ∨ 6 < t.args.length) by omega), hr, ho, if_pos (by simp)]
        rw [R]
        refine Qg Tryz.func139 rfl Tryz.call139 Tryz.ntmps139 (congrArg Array.toList Tryz.results139) (by simp) ?_
        repeat (first | ((first | (with_reducible (first | refine Qa fun K E hK hE => ?_ | refine Qy cr ?_ | refine Qy co ?_))); simp -implicitDefEqProofs only [Qf, Qb, Qi, OpW, QW, aop, undef, AS.ev, Qc, QV, Qq, Qz, Qm, QC, List.getD_cons_zero, List.getD_cons_succ, AV.Qj3, Qr, Q3, QD, Xt, List.all_cons, List.all_nil, QB, Qw, QH, Bool.and_self, Bool.not_false, ↓reduceIte, List.length_cons, List.length_nil, Nat.reduceAdd, Nat.reduceLT, Nat.reduceLeDiff, Nat.reduceEqDiff, Nat.zero_add, Nat.add_zero, true_and, and_self, Ql, QI, QJ, Xb, QZ, aBin, aLen, List.getElem?_cons_zero, List.getElem?_cons_succ, List.set_cons_zero, Option.map_some, Option.bind_some, List.getElem?_toArray, List.map_cons, List.map_nil, List.nil_append, List.append_nil, List.take_zero, List.drop_succ_cons, List.drop_zero, QU, XJ, QY, Q6, Ys, XM, goInt, decide_false, beq_self_eq_true, Bool.false_eq_true, beq_true, T.Qj2, QG, ti3, ti9, ti44, un44, Xw, Ya, X6, XL, Yw, Q0, w1, f1, f2, f3, f4, fb, m0, d0, T.Qj2, z0, z1, z2, y0, y6, QG]) | (with_reducible (first | refine Qh fun K hK => ?_ | refine Qk ?_ | refine Qo ?_ | refine Qt ?_ | refine Qe ?_ | refine QA ?_ | refine QE ?_)) | ((with_reducible refine hK _ ?_); clear hK) | (refine Qj rfl ?_; simp only [↓reduceIte, Bool.false_eq_true]))
        simp only [QO, Qp, Qv, upd, ↓reduceIte, Option.some.injEq, exists_eq_left']
        exact Xi (XH _ _) (.keep (.v _)) ⟨rfl, rfl⟩
      | true =>
        rw [ho] at co
        by_cases l2 : t.args.length = 2
        · have z3 : ((t.args.length : Int) == 2) = true := by simp [l2]
          have R : t.run b ((dn + 1 : Nat) : Int) = runL t.args (b - 1) (dn : Int) := by
            rw [T.run_eq, if_neg hn, if_neg k0, if_neg k1, if_pos k2, if_neg (show ¬ (t.int ≠ 0 ∨ 6 < t.args.length) by omega), hr, ho, if_neg (by simp [l2])]; rw [show (((dn + 1 : Nat) : Int) - 1) = (dn : Int) by omega]
          rw [R]
          refine Qg Tryz.func139 rfl Tryz.call139 Tryz.ntmps139 (congrArg Array.toList Tryz.results139) (by simp) ?_
          repeat (first | ((first | (with_reducible (first | refine Qa fun K E hK hE => ?_ | refine Qy cr ?_ | refine Qy co ?_ | refine FunW.ret (FunW.call ca) ?_))); simp -implicitDefEqProofs only [Qf, Qb, Qi, OpW, QW, aop, undef, AS.ev, Qc, QV, Qq, Qz, Qm, QC, List.getD_cons_zero, List.getD_cons_succ, AV.Qj3, Qr, Q3, QD, Xt, List.all_cons, List.all_nil, QB, Qw, QH, Bool.and_self, Bool.not_true, Bool.not_false, ↓reduceIte, List.length_cons, List.length_nil, Nat.reduceAdd, Nat.reduceLT, Nat.reduceLeDiff, Nat.reduceEqDiff, Nat.zero_add, Nat.add_zero, true_and, and_self, Ql, QI, QJ, Xb, QZ, aBin, aLen, List.getElem?_cons_zero, List.getElem?_cons_succ, List.set_cons_zero, Option.map_some, Option.bind_some, List.getElem?_toArray, List.map_cons, List.map_nil, List.nil_append, List.append_nil, List.take_zero, List.drop_succ_cons, List.drop_zero, QU, XJ, QY, Q6, Ys, XM, goInt, decide_false, beq_self_eq_true, Bool.false_eq_true, T.Qj2, QG, ti3, ti9, ti44, un44, Xw, Ya, X6, XL, Yw, Q0, w1, f1, f2, f3, f4, fb, m0, d0, T.Qj2, z0, z1, z2, y0, y6, QG, z3, wd]) | (with_reducible (first | refine Qh fun K hK => ?_ | refine Qk ?_ | refine Qo ?_ | refine Qt ?_ | refine Qe ?_ | refine QA ?_ | refine QE ?_)) | ((with_reducible refine hK _ ?_); clear hK) | (refine Qj rfl ?_; simp only [↓reduceIte, Bool.false_eq_true]))
          simp only [QO, Qp, Qv, upd, ↓reduceIte, Option.some.injEq, exists_eq_left']
          exact Xi (XH _ _) (.keep (.v _)) ⟨rfl, rfl⟩
        · have z3 : ((t.args.length : Int) == 2) = false := by simp; omega
          have R : t.run b ((dn + 1 : Nat) : Int) = (false, b - 1) := by
            rw [T.run_eq, if_neg hn, if_neg k0, if_neg k1, if_pos k2, if_neg (show ¬ (t.int ≠ 0 ∨ 6 < t.args.length) by omega), hr, ho, if_pos (by simp [l2])]
          rw [R]
          refine Qg Tryz.func139 rfl Tryz.call139 Tryz.ntmps139 (congrArg Array.toList Tryz.results139) (by simp) ?_
          repeat (first | ((first | (with_reducible (first | refine Qa fun K E hK hE => ?_ | refine Qy cr ?_ | refine Qy co ?_))); simp -implicitDefEqProofs only [Qf, Qb, Qi, OpW, QW, aop, undef, AS.ev, Qc, QV, Qq, Qz, Qm, QC, List.getD_cons_zero, List.getD_cons_succ, AV.Qj3, Qr, Q3, QD, Xt, List.all_cons, List.all_nil, QB, Qw, QH, Bool.and_self, Bool.not_false, ↓reduceIte, List.length_cons, List.length_nil, Nat.reduceAdd, Nat.reduceLT, Nat.reduceLeDiff, Nat.reduceEqDiff, Nat.zero_add, Nat.add_zero, true_and, and_self, Ql, QI, QJ, Xb, QZ, aBin, aLen, List.getElem?_cons_zero, List.getElem?_cons_succ, List.set_cons_zero, Option.map_some, Option.bind_some, List.getElem?_toArray, List.map_cons, List.map_nil, List.nil_append, List.append_nil, List.take_zero, List.drop_succ_cons, List.drop_zero, QU, XJ, QY, Q6, Ys, XM, goInt, decide_false, beq_self_eq_true, Bool.false_eq_true, T.Qj2, QG, ti3, ti9, ti44, un44, Xw, Ya, X6, XL, Yw, Q0, w1, f1, f2, f3, f4, fb, m0, d0, T.Qj2, z0, z1, z2, y0, y6, QG, z3]) | (with_reducible (first | refine Qh fun K hK => ?_ | refine Qk ?_ | refine Qo ?_ | refine Qt ?_ | refine Qe ?_ | refine QA ?_ | refine QE ?_)) | ((with_reducible refine hK _ ?_); clear hK) | (refine Qj rfl ?_; simp only [↓reduceIte, Bool.false_eq_true]))
          simp only [QO, Qp, Qv, upd, ↓reduceIte, Option.some.injEq, exists_eq_left']
          exact Xi (XH _ _) (.keep (.v _)) ⟨rfl, rfl⟩
end Go.Proofs.YtenheconhibonaaGreatDoor.Ab
set_option linter.unusedSimpArgs false
set_option linter.unusedVariables false
set_option maxHeartbeats 4000000
set_option maxRecDepth 4000
namespace Go.Proofs.YtenheconhibonaaGreatDoor.Ab
open Go.Proofs
theorem Chg.at {P : Program} {f : FuncId} {args : List AV} {i : Nat} {x y : AB} {r : AV} (H : Chg P f args i x r y) {h : AH} (hx : h[i]? = some x) : XG P f args h fun o h' => o = .ret r ∧ h' = h.set i y := by
  have := H h (QK hx)
  rwa [Qjx hx] at this
theorem Qjj (l : List T) (hl : l.length ≤ 1000) (h : AH) (i : Nat) (hx : h[i]? = some (.cells 149 1 [.agg [.i 200]])) : XG Tryz.prog 101 [.ptr i 0 0, .sl 4 (avs l) none, .i 20] h
    fun o h' => o = .ret (.b (runL l 200 20).1) ∧ h' = h.set i (.cells 149 1 [.agg [.i (runL l 200 20).2]]) :=
  (QhE 20 (fun t b i h0 h1 => Qh2 20 t b i (by omega) h0 h1) l hl 200 i (by omega) (fun t b hb h => T.Qkb t b 20 hb h)).at hx
def Xg (g : G) : Bool := Zj g.name && (decide (g.args.length ≤ 6) && (runL g.args 200 20).1)
theorem Zt (g : G) : Pure Tryz.prog 80 [g.atom] (.b (Xg g)) := by
  intro h
  have cr := QaW g.name
  have er : (decide (QdR 1 g.name) && !resB g.name) = Zj g.name := rfl
  rw [er] at cr
  cases hr : Zj g.name with
  | false =>
    rw [hr] at cr
    refine Qg Tryz.func80 rfl Tryz.call80 Tryz.ntmps80 (congrArg Array.toList Tryz.results80) (by simp) ?_
    repeat (first | ((first | (with_reducible (first | refine Qa fun K E hK hE => ?_ | refine Qy cr ?_))); simp -implicitDefEqProofs only [Qf, Qb, Qi, OpW, QW, aop, undef, AS.ev, Qc, Qq, Qz, Qm, QC, List.getD_cons_zero, AV.Qj3, Qr, Q3, QD, List.all_cons, List.all_nil, QB, Qw, QH, Bool.and_self, ↓reduceIte, List.length_cons, List.length_nil, Nat.reduceAdd, Nat.reduceLT, Nat.reduceLeDiff, Nat.reduceEqDiff, Nat.zero_add, Nat.add_zero, and_self, Ql, QI, QJ, Za, Zm, QX, hlen, happ, List.getElem?_cons_zero, List.getElem?_cons_succ, Option.map_some, Option.bind_some, List.getElem?_toArray, List.map_cons, List.map_nil, List.cons_append, List.nil_append, List.append_nil, List.take_zero, List.drop_succ_cons, List.drop_zero, Bool.false_eq_true, beq_true, ti9, ZB, Qe0, Qfu, XI]) | (with_reducible refine Qo ?_) | ((with_reducible refine hK _ ?_); clear hK))
    simp only [QO, Qp, Qv, upd, ↓reduceIte, Option.some.injEq, exists_eq_left']; first | refine Qd (htake _ _) (.keep (.v _)) ⟨by rw [Xg, hr]; rfl, rfl⟩ | refine Qd List.take_length (.keep (.v _)) ⟨by rw [Xg, hr]; rfl, rfl⟩
  | true =>
    rw [hr] at cr
    by_cases hl : (g.args.length : Int) ≤ 6
    · have hl' : decide (g.args.length ≤ 6) = true := decide_eq_true (by omega)
      have ca := Qjj g.args (by omega) (h ++ [.cells 66 2 [g.atom], .cells 149 1 [.agg [.i 200]]]) (h.length + 1) (by rw [hget]; rfl)
      rw [hset] at ca
      refine Qg Tryz.func80 rfl Tryz.call80 Tryz.ntmps80 (congrArg Array.toList Tryz.results80) (by simp) ?_
      repeat (first | ((first | (with_reducible (first | refine Qa fun K E hK hE => ?_ | refine Qy cr ?_ | refine FunW.ret (FunW.call ca) ?_))); simp -implicitDefEqProofs only [Qf, Qb, Qi, OpW, QW, aop, undef, AS.ev, Qc, Qq, Qz, Qm, QC, List.getD_cons_zero, AV.Qj3, Qr, Q3, QD, List.all_cons, List.all_nil, QB, Qw, QH, Bool.and_self, ↓reduceIte, List.length_cons, List.length_nil, Nat.reduceAdd, Nat.reduceLT, Nat.reduceLeDiff, Nat.reduceEqDiff, Nat.zero_add, Nat.add_zero, and_self, Ql, QI, QJ, aBin, Za, Zm, aLen, QX, hlen, happ, List.getElem?_cons_zero, List.getElem?_cons_succ, List.set_cons_zero, List.set_cons_succ, Option.map_some, Option.bind_some, List.getElem?_toArray, List.map_cons, List.map_nil, List.cons_append, List.nil_append, List.append_nil, List.take_zero, List.drop_succ_cons, List.drop_zero, YB, goInt, decide_true, beq_self_eq_true, QG, ti9, ti44, un44, ZB, Zi, Qe0, Qfu, XI, hl, QG]) | (with_reducible refine Qo ?_) | ((with_reducible refine hK _ ?_); clear hK))
      simp only [QO, Qp, Qv, upd, ↓reduceIte, Option.some.injEq, exists_eq_left']; first | refine Qd (htake _ _) (.keep (.v _)) ⟨by rw [Xg, hr, hl']; rfl, rfl⟩ | refine Qd List.take_length (.keep (.v _)) ⟨by rw [Xg, hr, hl']; rfl, rfl⟩
    · have hl' : decide (g.args.length ≤ 6) = false := decide_eq_false (by omega)
      refine Qg Tryz.func80 rfl Tryz.call80 Tryz.ntmps80 (congrArg Array.toList Tryz.results80) (by simp) ?_
      repeat (first | ((first | (with_reducible (first | refine Qa fun K E hK hE => ?_ | refine Qy cr ?_))); simp -implicitDefEqProofs only [Qf, Qb, Qi, OpW, QW, aop, undef, AS.ev, Qc, Qq, Qz, Qm, QC, List.getD_cons_zero, AV.Qj3, Qr, Q3, QD, List.all_cons, List.all_nil, QB, Qw, QH, Bool.and_self, ↓reduceIte, List.length_cons, List.length_nil, Nat.reduceAdd, Nat.reduceLT, Nat.reduceLeDiff, Nat.reduceEqDiff, Nat.zero_add, Nat.add_zero, and_self, Ql, QI, QJ, aBin, Za, Zm, aLen, QX, hlen, happ, List.getElem?_cons_zero, List.getElem?_cons_succ, Option.map_some, Option.bind_some, List.getElem?_toArray, List.map_cons, List.map_nil, List.cons_append, List.nil_append, List.append_nil, List.take_zero, List.drop_succ_cons, List.drop_zero, YB, goInt, decide_false, beq_self_eq_true, Bool.false_eq_true, beq_true, QG, ti9, ti44, un44, ZB, Zi, Qe0, Qfu, XI, hl, QG]) | (with_reducible refine Qo ?_) | ((with_reducible refine hK _ ?_); clear hK))
      simp only [QO, Qp, Qv, upd, ↓reduceIte, Option.some.injEq, exists_eq_left']; first | refine Qd (htake _ _) (.keep (.v _)) ⟨by rw [Xg, hr, hl']; rfl, rfl⟩ | refine Qd List.take_length (.keep (.v _)) ⟨by rw [Xg, hr, hl']; rfl, rfl⟩
def ZX (op : Int) : Int := if op = 1 ∨ op = 2 then 0 else if op = 11 ∨ op = 12 then 1 else 2
def Q8 (g : G) : Bool := if g.op = 0 then Xg ⟨0, g.name, g.args⟩ else
  decide (0 < g.op ∧ g.op ≤ 12) && (YH g.name && (decide ((g.args.length : Int) = ZX g.op) && (runL g.args 200 20).1))
end Go.Proofs.YtenheconhibonaaGreatDoor.Ab
set_option linter.unusedSimpArgs false
set_option linter.unusedVariables false
set_option maxHeartbeats 4000000
set_option maxRecDepth 4000
namespace Go.Proofs.YtenheconhibonaaGreatDoor.Ab
open Go.Proofs
theorem ZJ {s : ByteArray} (h : Zj s = true) : 1 ≤ s.size ∧ s.size ≤ 40 := by
  rw [Zj, Bool.and_eq_true, decide_eq_true_eq] at h
  exact ⟨h.1.1, h.1.2.1⟩
theorem Qer (b : Bool) (x : ByteArray) : (encB b x).size ≤ x.size + 2 := by
  rw [encB]; split
  · rw [Qu, Qu]; have : lpa.size = 1 := rfl; have : rpa.size = 1 := rfl; omega
  · omega
theorem QdN (l : List ByteArray) : ∀ f, (XP f l).size ≤ (l.map fun x => x.size + 2).sum := by
  induction l with
  | nil => intro f; rw [XP]; simp
  | cons x l ih =>
    intro f
    have h1 := ih false
    rw [Qdf f _ x l rfl, List.map_cons, List.sum_cons]
    split <;> omega
theorem QiY (t : ByteArray) : (vOf t).size = t.size + 1 := by rw [vOf, Qu]; have : ({ data := #[86] } : ByteArray).size = 1 := rfl; omega
theorem Qbh {s : ByteArray} (h : YH s = true) : s.size = 0 := by
  rw [YH, QbN, decide_eq_true_eq] at h
  exact h
mutual
theorem T.Qkq : ∀ (t : T) (b d : Int), (t.run b d).1 = true → t.lex ∧ (t.txt.size : Int) + 4 ≤ 60 * (b - (t.run b d).2) ∧ 0 < t.txt.size ∧ (t.run b d).2 ≤ b
  | .mk k i n l, b, d, h => by
    rw [T.run] at h ⊢
    split at h
    · cases h
    rename_i h1
    rw [if_neg h1]
    split at h
    · rename_i k0
      subst k0
      rw [if_pos rfl]
      simp only [Bool.and_eq_true, decide_eq_true_eq] at h
      obtain ⟨⟨hr, hn⟩, hl⟩ := h
      have hl' : l = [] := by simpa using hl
      subst hl'
      have hn' := Qbh hn
      have hz := QcN i (by omega) (by omega)
      have hp := Qje i
      have et : (T.mk 0 i n []).txt = decZ i := by rw [T.txt, if_neg (by simp [T.oper, T.kind]), if_pos rfl]
      rw [et]
      refine ⟨⟨fun _ => by omega, fun e => (by cases e), by simp, by omega, trivial⟩, ?_, hp, ?_⟩ <;> simp only <;> omega
    · rename_i k0
      rw [if_neg k0]
      split at h
      · rename_i k1
        subst k1
        rw [if_pos rfl]
        simp only [Bool.and_eq_true, decide_eq_true_eq] at h
        obtain ⟨⟨hr, hn⟩, hl⟩ := h
        have hl' : l = [] := by simpa using hl
        subst hl'
        have hn' := Qbh hn
        have hz := Qgx (n := i.toNat) (by omega)
        have et : (T.mk 1 i n []).txt = vOf (decN i.toNat) := by rw [T.txt, if_neg (by simp [T.oper, T.kind]), if_neg k0, if_pos rfl]
        rw [et, QiY]
        refine ⟨⟨fun e => (by cases e), fun _ => hr, by simp, by omega, trivial⟩, ?_, by omega, ?_⟩ <;> simp only <;> omega
      · rename_i k1
        rw [if_neg k1]
        split at h
        · rename_i k2
          subst k2
          rw [if_pos rfl]
          split at h
          · cases h
          rename_i h3
          rw [if_neg h3]
          split at h
          · cases h
          rename_i h4
          rw [if_neg h4]
          have hL := Qck l (b - 1) (d - 1) h
          have hll : l.length ≤ 6 := by omega
          have hns : 1 ≤ n.size ∧ n.size ≤ 40 := by
            simp only [Bool.not_eq_true', Bool.and_eq_true, not_and, Bool.not_eq_false, decide_eq_true_eq] at h4
            cases hrb : Zj n with
            | true => exact ZJ hrb
            | false =>
              rw [hrb] at h4
              have hop : opB n = true := by
                cases ho : opB n with
                | true => rfl
                | false => rw [ho] at h4; simp at h4
              by_cases hs1 : n.size = 1
              · omega
              · rw [QdP hs1] at hop; cases hop
          refine ⟨⟨fun e => (by cases e), fun e => (by cases e), by omega, by omega, hL.1⟩, ?_⟩
          by_cases ho : (T.mk 2 i n l).oper = 0
          · have et : (T.mk 2 i n l).txt = funT n (txts l) := by rw [T.txt, if_neg (by simpa using ho), if_neg k0, if_neg k1]
            rw [et, funT, Qu]
            have e1 := Qer (decide (0 < (txts l).length)) (XP true (txts l))
            have e2 := QdN (txts l) true
            have e3 := hL.2.1
            refine ⟨?_, ?_, ?_⟩ <;> omega
          · have hk : l.length = 2 := by
              simp only [T.oper] at ho
              split at ho
              · exact absurd rfl ho
              · rename_i hq; exact Decidable.byContradiction fun e => hq (.inr e)
            match l, hk, hL with
            | [a, c], _, hL =>
              have et : (T.mk 2 i n [a, c]).txt = binT (ofB n) n a.oper c.oper a.txt c.txt := by rw [T.txt, if_pos ho]; rfl
              rw [et, binT]
              simp only [Qu]
              have hsp : ({ data := #[32] } : ByteArray).size = 1 := rfl
              have e1 := Qer ((a.oper == 1) && (ofB n == 2)) a.txt
              have e2 := Qer ((c.oper != 0) && ((c.oper == 1) || (ofB n == 2))) c.txt
              have e3 := hL.2.1
              have e4 := hL.2.2
              simp only [txts, List.map_cons, List.map_nil, List.sum_cons, List.sum_nil] at e3
              refine ⟨?_, ?_, ?_⟩ <;> omega
        · cases h
theorem Qck : ∀ (l : List T) (b d : Int), (runL l b d).1 = true → lexL l ∧ ((((txts l).map fun x => x.size + 2).sum : Nat) : Int) ≤ 60 * (b - (runL l b d).2) ∧ (runL l b d).2 ≤ b
  | [], b, d, h => by rw [runL]; exact ⟨trivial, by simp [txts], Int.le_refl _⟩
  | t :: l, b, d, h => by
    rw [runL] at h ⊢
    split at h
    · rename_i h1
      rw [if_pos h1]
      have ht := T.Qkq t b d h1
      have hl := Qck l _ d h
      refine ⟨⟨ht.1, hl.1⟩, ?_, ?_⟩
      · rw [txts, List.map_cons, List.sum_cons]
        have := hl.2.1
        have := ht.2.1
        omega
      · have := hl.2.2; have := ht.2.2.2; omega
    · cases h
end
end Go.Proofs.YtenheconhibonaaGreatDoor.Ab
