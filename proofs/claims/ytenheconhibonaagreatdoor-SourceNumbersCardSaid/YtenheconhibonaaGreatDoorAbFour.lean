/-
  An abstract program logic, contracts of functions, and laws of terms and rules (part 4).
-/
import Derived.Test.YtenheconhibonaaGreatDoorAbThree
import Derived.Test.YtenheconhibonaaGreatDoorAbTwo
set_option linter.unusedVariables false
set_option linter.unusedSimpArgs false
set_option maxHeartbeats 4000000
set_option linter.unusedSimpArgs false
set_option linter.unusedVariables false
set_option maxHeartbeats 4000000
set_option maxRecDepth 4000
namespace Go.Proofs.YtenheconhibonaaGreatDoor.Ab
open Go.Proofs
def QeT (op : Int) : ByteArray := if op = 3 then { data := #[61] } else if op = 4 then { data := #[105, 115] } else if op = 5 then { data := #[61, 61] } else if op = 6 then { data := #[92, 61] } else if op = 7 then { data := #[60] } else if op = 8 then { data := #[61, 60] } else if op = 9 then { data := #[61, 58, 61] } else { data := #[61, 92, 61] }
theorem Qhz : Pure Tryz.prog 87 [.i 3] (.v (.string { data := #[61] })) := by
  intro h
  refine Qg Tryz.func87 rfl Tryz.call87 Tryz.ntmps87 (congrArg Array.toList Tryz.results87) (by simp) ?_
  repeat (first | (((with_reducible refine Qa fun K E hK hE => ?_)); simp -implicitDefEqProofs only [Qf, Qb, Qi, OpW, aop, undef, AS.ev, Qc, Qq, QM, Qm, QC, List.getD_cons_zero, ↓reduceIte, Nat.reduceLT, Nat.reduceEqDiff, aBin, Option.map_some, QU, beq_self_eq_true]) | (with_reducible (first | refine Qh fun K hK => ?_ | refine Qk ?_ | refine Qo ?_ | refine QA ?_ | refine QE ?_)) | ((with_reducible refine hK _ ?_); clear hK) | (refine Qj rfl ?_; simp only [↓reduceIte]))
  simp only [QO, Qp, Qv, upd, ↓reduceIte, Option.some.injEq, exists_eq_left']; first | refine Qd (htake _ _) (.keep (.v _)) ⟨rfl, rfl⟩ | refine Qd List.take_length (.keep (.v _)) ⟨rfl, rfl⟩
theorem Qiv : Pure Tryz.prog 87 [.i 4] (.v (.string { data := #[105, 115] })) := by
  intro h
  have z3 : ((4 : Int) == 3) = false := by decide
  refine Qg Tryz.func87 rfl Tryz.call87 Tryz.ntmps87 (congrArg Array.toList Tryz.results87) (by simp) ?_
  repeat (first | (((with_reducible refine Qa fun K E hK hE => ?_)); simp -implicitDefEqProofs only [Qf, Qb, Qi, OpW, aop, undef, AS.ev, Qc, Qq, QM, Qm, QC, List.getD_cons_zero, ↓reduceIte, Nat.reduceLT, Nat.reduceEqDiff, aBin, Option.map_some, QU, beq_self_eq_true, z3]) | (with_reducible (first | refine Qh fun K hK => ?_ | refine Qk ?_ | refine Qo ?_ | refine QA ?_ | refine QE ?_)) | ((with_reducible refine hK _ ?_); clear hK) | (refine Qj rfl ?_; simp only [↓reduceIte, Bool.false_eq_true]))
  simp only [QO, Qp, Qv, upd, ↓reduceIte, Option.some.injEq, exists_eq_left']; first | refine Qd (htake _ _) (.keep (.v _)) ⟨rfl, rfl⟩ | refine Qd List.take_length (.keep (.v _)) ⟨rfl, rfl⟩
theorem QhF : Pure Tryz.prog 87 [.i 5] (.v (.string { data := #[61, 61] })) := by
  intro h
  have z3 : ((5 : Int) == 3) = false := by decide
  have z4 : ((5 : Int) == 4) = false := by decide
  refine Qg Tryz.func87 rfl Tryz.call87 Tryz.ntmps87 (congrArg Array.toList Tryz.results87) (by simp) ?_
  repeat (first | (((with_reducible refine Qa fun K E hK hE => ?_)); simp -implicitDefEqProofs only [Qf, Qb, Qi, OpW, aop, undef, AS.ev, Qc, Qq, QM, Qm, QC, List.getD_cons_zero, ↓reduceIte, Nat.reduceLT, Nat.reduceEqDiff, aBin, Option.map_some, QU, beq_self_eq_true, z3, z4]) | (with_reducible (first | refine Qh fun K hK => ?_ | refine Qk ?_ | refine Qo ?_ | refine QA ?_ | refine QE ?_)) | ((with_reducible refine hK _ ?_); clear hK) | (refine Qj rfl ?_; simp only [↓reduceIte, Bool.false_eq_true]))
  simp only [QO, Qp, Qv, upd, ↓reduceIte, Option.some.injEq, exists_eq_left']; first | refine Qd (htake _ _) (.keep (.v _)) ⟨rfl, rfl⟩ | refine Qd List.take_length (.keep (.v _)) ⟨rfl, rfl⟩
theorem Qhw : Pure Tryz.prog 87 [.i 6] (.v (.string { data := #[92, 61] })) := by
  intro h
  have z3 : ((6 : Int) == 3) = false := by decide
  have z4 : ((6 : Int) == 4) = false := by decide
  have z5 : ((6 : Int) == 5) = false := by decide
  refine Qg Tryz.func87 rfl Tryz.call87 Tryz.ntmps87 (congrArg Array.toList Tryz.results87) (by simp) ?_
  repeat (first | (((with_reducible refine Qa fun K E hK hE => ?_)); simp -implicitDefEqProofs only [Qf, Qb, Qi, OpW, aop, undef, AS.ev, Qc, Qq, QM, Qm, QC, List.getD_cons_zero, ↓reduceIte, Nat.reduceLT, Nat.reduceEqDiff, aBin, Option.map_some, QU, beq_self_eq_true, z3, z4, z5]) | (with_reducible (first | refine Qh fun K hK => ?_ | refine Qk ?_ | refine Qo ?_ | refine QA ?_ | refine QE ?_)) | ((with_reducible refine hK _ ?_); clear hK) | (refine Qj rfl ?_; simp only [↓reduceIte, Bool.false_eq_true]))
  simp only [QO, Qp, Qv, upd, ↓reduceIte, Option.some.injEq, exists_eq_left']; first | refine Qd (htake _ _) (.keep (.v _)) ⟨rfl, rfl⟩ | refine Qd List.take_length (.keep (.v _)) ⟨rfl, rfl⟩
theorem QhG : Pure Tryz.prog 87 [.i 7] (.v (.string { data := #[60] })) := by
  intro h
  have z3 : ((7 : Int) == 3) = false := by decide
  have z4 : ((7 : Int) == 4) = false := by decide
  have z5 : ((7 : Int) == 5) = false := by decide
  have z6 : ((7 : Int) == 6) = false := by decide
  refine Qg Tryz.func87 rfl Tryz.call87 Tryz.ntmps87 (congrArg Array.toList Tryz.results87) (by simp) ?_
  repeat (first | (((with_reducible refine Qa fun K E hK hE => ?_)); simp -implicitDefEqProofs only [Qf, Qb, Qi, OpW, aop, undef, AS.ev, Qc, Qq, QM, Qm, QC, List.getD_cons_zero, ↓reduceIte, Nat.reduceLT, Nat.reduceEqDiff, aBin, Option.map_some, QU, beq_self_eq_true, z3, z4, z5, z6]) | (with_reducible (first | refine Qh fun K hK => ?_ | refine Qk ?_ | refine Qo ?_ | refine QA ?_ | refine QE ?_)) | ((with_reducible refine hK _ ?_); clear hK) | (refine Qj rfl ?_; simp only [↓reduceIte, Bool.false_eq_true]))
  simp only [QO, Qp, Qv, upd, ↓reduceIte, Option.some.injEq, exists_eq_left']; first | refine Qd (htake _ _) (.keep (.v _)) ⟨rfl, rfl⟩ | refine Qd List.take_length (.keep (.v _)) ⟨rfl, rfl⟩
theorem QhC : Pure Tryz.prog 87 [.i 8] (.v (.string { data := #[61, 60] })) := by
  intro h
  have z3 : ((8 : Int) == 3) = false := by decide
  have z4 : ((8 : Int) == 4) = false := by decide
  have z5 : ((8 : Int) == 5) = false := by decide
  have z6 : ((8 : Int) == 6) = false := by decide
  have z7 : ((8 : Int) == 7) = false := by decide
  refine Qg Tryz.func87 rfl Tryz.call87 Tryz.ntmps87 (congrArg Array.toList Tryz.results87) (by simp) ?_
  repeat (first | (((with_reducible refine Qa fun K E hK hE => ?_)); simp -implicitDefEqProofs only [Qf, Qb, Qi, OpW, aop, undef, AS.ev, Qc, Qq, QM, Qm, QC, List.getD_cons_zero, ↓reduceIte, Nat.reduceLT, Nat.reduceEqDiff, aBin, Option.map_some, QU, beq_self_eq_true, z3, z4, z5, z6, z7]) | (with_reducible (first | refine Qh fun K hK => ?_ | refine Qk ?_ | refine Qo ?_ | refine QA ?_ | refine QE ?_)) | ((with_reducible refine hK _ ?_); clear hK) | (refine Qj rfl ?_; simp only [↓reduceIte, Bool.false_eq_true]))
  simp only [QO, Qp, Qv, upd, ↓reduceIte, Option.some.injEq, exists_eq_left']; first | refine Qd (htake _ _) (.keep (.v _)) ⟨rfl, rfl⟩ | refine Qd List.take_length (.keep (.v _)) ⟨rfl, rfl⟩
theorem Qiu : Pure Tryz.prog 87 [.i 9] (.v (.string { data := #[61, 58, 61] })) := by
  intro h
  have z3 : ((9 : Int) == 3) = false := by decide
  have z4 : ((9 : Int) == 4) = false := by decide
  have z5 : ((9 : Int) == 5) = false := by decide
  have z6 : ((9 : Int) == 6) = false := by decide
  have z7 : ((9 : Int) == 7) = false := by decide
  have z8 : ((9 : Int) == 8) = false := by decide
  refine Qg Tryz.func87 rfl Tryz.call87 Tryz.ntmps87 (congrArg Array.toList Tryz.results87) (by simp) ?_
  repeat (first | (((with_reducible refine Qa fun K E hK hE => ?_)); simp -implicitDefEqProofs only [Qf, Qb, Qi, OpW, aop, undef, AS.ev, Qc, Qq, QM, Qm, QC, List.getD_cons_zero, ↓reduceIte, Nat.reduceLT, Nat.reduceEqDiff, aBin, Option.map_some, QU, beq_self_eq_true, z3, z4, z5, z6, z7, z8]) | (with_reducible (first | refine Qh fun K hK => ?_ | refine Qk ?_ | refine Qo ?_ | refine QA ?_ | refine QE ?_)) | ((with_reducible refine hK _ ?_); clear hK) | (refine Qj rfl ?_; simp only [↓reduceIte, Bool.false_eq_true]))
  simp only [QO, Qp, Qv, upd, ↓reduceIte, Option.some.injEq, exists_eq_left']; first | refine Qd (htake _ _) (.keep (.v _)) ⟨rfl, rfl⟩ | refine Qd List.take_length (.keep (.v _)) ⟨rfl, rfl⟩
theorem QgP : Pure Tryz.prog 87 [.i 10] (.v (.string { data := #[61, 92, 61] })) := by
  intro h
  have z3 : ((10 : Int) == 3) = false := by decide
  have z4 : ((10 : Int) == 4) = false := by decide
  have z5 : ((10 : Int) == 5) = false := by decide
  have z6 : ((10 : Int) == 6) = false := by decide
  have z7 : ((10 : Int) == 7) = false := by decide
  have z8 : ((10 : Int) == 8) = false := by decide
  have z9 : ((10 : Int) == 9) = false := by decide
  refine Qg Tryz.func87 rfl Tryz.call87 Tryz.ntmps87 (congrArg Array.toList Tryz.results87) (by simp) ?_
  repeat (first | (((with_reducible refine Qa fun K E hK hE => ?_)); simp -implicitDefEqProofs only [Qf, Qb, Qi, OpW, aop, undef, AS.ev, Qc, Qq, QM, Qm, QC, List.getD_cons_zero, ↓reduceIte, Nat.reduceLT, Nat.reduceEqDiff, aBin, Option.map_some, QU, beq_self_eq_true, z3, z4, z5, z6, z7, z8, z9]) | (with_reducible (first | refine Qh fun K hK => ?_ | refine Qk ?_ | refine Qo ?_ | refine QA ?_ | refine QE ?_)) | ((with_reducible refine hK _ ?_); clear hK) | (refine Qj rfl ?_; simp only [↓reduceIte, Bool.false_eq_true]))
  simp only [QO, Qp, Qv, upd, ↓reduceIte, Option.some.injEq, exists_eq_left']; first | refine Qd (htake _ _) (.keep (.v _)) ⟨rfl, rfl⟩ | refine Qd List.take_length (.keep (.v _)) ⟨rfl, rfl⟩
theorem Qe8 (op : Int) (h3 : 3 ≤ op) (h10 : op ≤ 10) : Pure Tryz.prog 87 [.i op] (.v (.string (QeT op))) := by
  have : op = 3 ∨ op = 4 ∨ op = 5 ∨ op = 6 ∨ op = 7 ∨ op = 8 ∨ op = 9 ∨ op = 10 := by omega
  rcases this with rfl | rfl | rfl | rfl | rfl | rfl | rfl | rfl
  · exact Qhz
  · exact Qiv
  · exact QhF
  · exact Qhw
  · exact QhG
  · exact QhC
  · exact Qiu
  · exact QgP
theorem Qdr (op : Int) (h3 : 3 ≤ op) (h10 : op ≤ 10) : (QeT op).size ≤ 3 := by
  have : op = 3 ∨ op = 4 ∨ op = 5 ∨ op = 6 ∨ op = 7 ∨ op = 8 ∨ op = 9 ∨ op = 10 := by omega
  rcases this with rfl | rfl | rfl | rfl | rfl | rfl | rfl | rfl <;> decide
abbrev Qee : ByteArray := { data := #[116, 114, 117, 101] }
abbrev QhD : ByteArray := { data := #[102, 97, 105, 108] }
abbrev intB : ByteArray := { data := #[105, 110, 116] }
abbrev grdB : ByteArray := { data := #[103, 114, 111, 117, 110, 100] }
def pairT (op : Int) : List ByteArray → ByteArray
  | [x, y] => (x ++ (({ data := #[32] } : ByteArray) ++ QeT op ++ { data := #[32] })) ++ y
  | _ => .empty
/-- the text of a goal that is valid -/
def Z5 (g : G) : ByteArray := if g.op = 0 then funT g.name (txts g.args) else if g.op = 1 then Qee else if g.op = 2 then QhD else if g.op = 11 then funT intB (txts g.args) else if g.op = 12 then funT grdB (txts g.args) else pairT g.op (txts g.args)
theorem QjW {h : AH} (hG : Xu h) (u : Bool) (tx : ByteArray) : Xu (HB (h ++ [AB.dead, AB.dead]) h.length (h.length + 1) u tx) := by
  obtain ⟨k, ty, fr, e⟩ := hG
  refine ⟨k, ty, fr, ?_⟩
  have hk := QK e
  rw [HB, Yb _ _ (by omega) (by omega), List.getElem?_append_left hk, e]
section
variable {h : AH} {i j p : Nat} (hi : i < h.length) (hj : j < h.length) (hij : i ≠ j) (hpi : i ≠ p) (hpj : j ≠ p)
theorem Qh5 (hi : i < h.length) (hj : j < h.length) (hij : i ≠ j) (hpi : i ≠ p) (hpj : j ≠ p) (g : G) (gp : h[p]? = some (.cells 66 2 [g.atom])) (hx : lexL g.args) (hl : g.args.length ≤ 1000000)
    (hG : Xu (HB h i j true (.empty))) (u : Bool) (tx : ByteArray) (hs : tx.size + (funT g.name (txts g.args)).size ≤ 140737488355328) :
    Wri 83 [.ptr i 0 0, .ptr p 0 0] h i j u tx (funT g.name (txts g.args)) := by
  have k1 : ∀ u tx, (HB h i j u tx)[p]? = some (.cells 66 2 [.agg [.v (.string g.name), .sl 4 (avs g.args) none]]) := fun u tx => by
    rw [HB, Yb _ _ hpi hpj, gp]; rfl
  have c1 := ZL hi hj hij g.args hl g.name (fun a ha h hi hj hG tx hs => QaR g.args hx i j hij a ha h hi hj hG true tx hs) hG u tx hs
  rw [Wri] at c1
  refine Qg Tryz.func83 rfl Tryz.call83 Tryz.ntmps83 (congrArg Array.toList Tryz.results83) (by simp) ?_
  repeat (first | ((first | (with_reducible (first | refine Qn fun K E hK hE => ?_ | refine FunW.ret (FunW.call c1) ?_))); simp -implicitDefEqProofs only [Qf, Qb, Qi, OpW, QW, aop, undef, AS.ev, Qc, Qm, QC, List.getD_cons_zero, List.getD_cons_succ, Qr, ↓reduceIte, Nat.reduceLT, Nat.reduceEqDiff, Nat.zero_add, Nat.add_zero, Ql, QI, QJ, List.getElem?_cons_zero, List.getElem?_cons_succ, Option.map_some, List.map_cons, List.map_nil, ti9, ti44, ZB, Zi, k1]) | ((with_reducible refine hK _ ?_); clear hK))
  simp -implicitDefEqProofs only [Option.map_some, Option.some.injEq, List.mapM_nil, Option.pure_def, Option.map_some, QO, Qp, exists_eq_left']
  exact .inr ⟨rfl, rfl⟩
theorem Qhe (hi : i < h.length) (hj : j < h.length) (hij : i ≠ j) (hpi : i ≠ p) (hpj : j ≠ p) (g : G) (gp : h[p]? = some (.cells 53 3 [g.goal])) (hx : lexL g.args) (hl : g.args.length ≤ 1000000) (ho : g.op = 0)
    (hG : Xu (HB h i j true (.empty))) (u : Bool) (tx : ByteArray) (hs : tx.size + (funT g.name (txts g.args)).size ≤ 140737488355328) :
    Wri 85 [.ptr i 0 0, .ptr p 0 0] h i j u tx (funT g.name (txts g.args)) := by
  have k1 : ∀ u tx, (HB h i j u tx)[p]? = some (.cells 53 3 [.agg [.i 0, .v (.string g.name), .sl 4 (avs g.args) none]]) := fun u tx => by
    rw [HB, Yb _ _ hpi hpj, gp, ← ho]; rfl
  have c1 := ZL hi hj hij g.args hl g.name (fun a ha h hi hj hG tx hs => QaR g.args hx i j hij a ha h hi hj hG true tx hs) hG u tx hs
  rw [Wri] at c1
  refine Qg Tryz.func85 rfl Tryz.call85 Tryz.ntmps85 (congrArg Array.toList Tryz.results85) (by simp) ?_
  repeat (first | ((first | (with_reducible (first | refine Qa fun K E hK hE => ?_ | refine Qn fun K E hK hE => ?_ | refine FunW.ret (FunW.call c1) ?_))); simp -implicitDefEqProofs only [Qf, Qb, Qi, OpW, QW, aop, undef, AS.ev, Qc, Qq, Qm, QC, List.getD_cons_zero, List.getD_cons_succ, Qr, ↓reduceIte, Nat.reduceLT, Nat.reduceEqDiff, Nat.zero_add, Nat.add_zero, Ql, QI, QJ, aBin, List.getElem?_cons_zero, List.getElem?_cons_succ, Option.map_some, List.map_cons, List.map_nil, QU, beq_self_eq_true, ti3, ti9, ti44, XR, YZ, Yg, k1]) | (with_reducible (first | refine Qk ?_ | refine Qs ?_)) | ((with_reducible refine hK _ ?_); clear hK) | (refine Qj rfl ?_; simp only [↓reduceIte]))
  simp -implicitDefEqProofs only [Option.map_some, Option.some.injEq, List.mapM_nil, Option.pure_def, Option.map_some, QO, Qp, exists_eq_left']
  exact .inr ⟨rfl, rfl⟩
theorem Qhf (hi : i < h.length) (hj : j < h.length) (hij : i ≠ j) (hpi : i ≠ p) (hpj : j ≠ p) (g : G) (gp : h[p]? = some (.cells 53 3 [g.goal])) (hx : lexL g.args) (hl : g.args.length ≤ 1000000) (ho : g.op = 1)
    (hG : Xu (HB h i j true (.empty))) (u : Bool) (tx : ByteArray) (hs : tx.size + (Qee).size ≤ 140737488355328) :
    Wri 85 [.ptr i 0 0, .ptr p 0 0] h i j u tx (Qee) := by
  have k1 : ∀ u tx, (HB h i j u tx)[p]? = some (.cells 53 3 [.agg [.i 1, .v (.string g.name), .sl 4 (avs g.args) none]]) := fun u tx => by
    rw [HB, Yb _ _ hpi hpj, gp, ← ho]; rfl
  have z0 : ((1 : Int) == 0) = false := by decide
  have c1 := wstr hi hj hij u tx Qee hs
  have f6 := fun u tx => Qf5 (h := h) hi hij u tx
  refine Qg Tryz.func85 rfl Tryz.call85 Tryz.ntmps85 (congrArg Array.toList Tryz.results85) (by simp) ?_
  repeat (first | ((first | (with_reducible (first | refine Qa fun K E hK hE => ?_ | refine Qn fun K E hK hE => ?_ | refine FunW.ret (FunW.call c1) ?_))); simp -implicitDefEqProofs only [Qf, Qb, Qi, OpW, QW, aop, undef, AS.ev, Qc, Qq, QM, Qm, QC, List.getD_cons_zero, List.getD_cons_succ, Qr, ↓reduceIte, Nat.reduceLT, Nat.reduceEqDiff, Nat.add_zero, Ql, QI, QJ, aBin, List.getElem?_cons_zero, Option.map_some, List.map_cons, List.map_nil, QU, beq_self_eq_true, ti3, XR, Yf, Q0, k1, f6, z0]) | (with_reducible (first | refine Qk ?_ | refine Qs ?_)) | ((with_reducible refine hK _ ?_); clear hK) | (refine Qj rfl ?_; simp only [↓reduceIte, Bool.false_eq_true]))
  simp -implicitDefEqProofs only [Option.map_some, Option.some.injEq, List.mapM_nil, Option.pure_def, Option.map_some, QO, Qp, exists_eq_left']
  exact .inr ⟨rfl, rfl⟩
theorem Qg9 (hi : i < h.length) (hj : j < h.length) (hij : i ≠ j) (hpi : i ≠ p) (hpj : j ≠ p) (g : G) (gp : h[p]? = some (.cells 53 3 [g.goal])) (hx : lexL g.args) (hl : g.args.length ≤ 1000000) (ho : g.op = 2)
    (hG : Xu (HB h i j true (.empty))) (u : Bool) (tx : ByteArray) (hs : tx.size + (QhD).size ≤ 140737488355328) :
    Wri 85 [.ptr i 0 0, .ptr p 0 0] h i j u tx (QhD) := by
  have k1 : ∀ u tx, (HB h i j u tx)[p]? = some (.cells 53 3 [.agg [.i 2, .v (.string g.name), .sl 4 (avs g.args) none]]) := fun u tx => by
    rw [HB, Yb _ _ hpi hpj, gp, ← ho]; rfl
  have z0 : ((2 : Int) == 0) = false := by decide
  have z1 : ((2 : Int) == 1) = false := by decide
  have c1 := wstr hi hj hij u tx QhD hs
  have f6 := fun u tx => Qf5 (h := h) hi hij u tx
  refine Qg Tryz.func85 rfl Tryz.call85 Tryz.ntmps85 (congrArg Array.toList Tryz.results85) (by simp) ?_
  repeat (first | ((first | (with_reducible (first | refine Qa fun K E hK hE => ?_ | refine Qn fun K E hK hE => ?_ | refine FunW.ret (FunW.call c1) ?_))); simp -implicitDefEqProofs only [Qf, Qb, Qi, OpW, QW, aop, undef, AS.ev, Qc, Qq, QM, Qm, QC, List.getD_cons_zero, List.getD_cons_succ, Qr, ↓reduceIte, Nat.reduceLT, Nat.reduceEqDiff, Nat.add_zero, Ql, QI, QJ, aBin, List.getElem?_cons_zero, Option.map_some, List.map_cons, List.map_nil, QU, beq_self_eq_true, ti3, XR, Yf, Q0, k1, f6, z0, z1]) | (with_reducible (first | refine Qk ?_ | refine Qs ?_)) | ((with_reducible refine hK _ ?_); clear hK) | (refine Qj rfl ?_; simp only [↓reduceIte, Bool.false_eq_true]))
  simp -implicitDefEqProofs only [Option.map_some, Option.some.injEq, List.mapM_nil, Option.pure_def, Option.map_some, QO, Qp, exists_eq_left']
  exact .inr ⟨rfl, rfl⟩
theorem Qhs (hi : i < h.length) (hj : j < h.length) (hij : i ≠ j) (hpi : i ≠ p) (hpj : j ≠ p) (g : G) (gp : h[p]? = some (.cells 53 3 [g.goal])) (hx : lexL g.args) (hl : g.args.length ≤ 1000000) (ho : g.op = 11)
    (hG : Xu (HB h i j true (.empty))) (u : Bool) (tx : ByteArray) (hs : tx.size + (funT intB (txts g.args)).size ≤ 140737488355328) :
    Wri 85 [.ptr i 0 0, .ptr p 0 0] h i j u tx (funT intB (txts g.args)) := by
  have k1 : ∀ u tx, (HB h i j u tx)[p]? = some (.cells 53 3 [.agg [.i 11, .v (.string g.name), .sl 4 (avs g.args) none]]) := fun u tx => by
    rw [HB, Yb _ _ hpi hpj, gp, ← ho]; rfl
  have z0 : ((11 : Int) == 0) = false := by decide
  have z1 : ((11 : Int) == 1) = false := by decide
  have z2 : ((11 : Int) == 2) = false := by decide
  have c1 := ZL hi hj hij g.args hl intB (fun a ha h hi hj hG tx hs => QaR g.args hx i j hij a ha h hi hj hG true tx hs) hG u tx hs
  rw [Wri] at c1
  refine Qg Tryz.func85 rfl Tryz.call85 Tryz.ntmps85 (congrArg Array.toList Tryz.results85) (by simp) ?_
  repeat (first | ((first | (with_reducible (first | refine Qa fun K E hK hE => ?_ | refine Qn fun K E hK hE => ?_ | refine FunW.ret (FunW.call c1) ?_))); simp -implicitDefEqProofs only [Qf, Qb, Qi, OpW, QW, aop, undef, AS.ev, Qc, Qq, QM, Qm, QC, List.getD_cons_zero, List.getD_cons_succ, Qr, ↓reduceIte, Nat.reduceLT, Nat.reduceEqDiff, Nat.zero_add, Nat.add_zero, Ql, QI, QJ, aBin, List.getElem?_cons_zero, List.getElem?_cons_succ, Option.map_some, List.map_cons, List.map_nil, QU, beq_self_eq_true, ti3, ti44, XR, Yg, k1, z0, z1, z2]) | (with_reducible (first | refine Qk ?_ | refine Qs ?_)) | ((with_reducible refine hK _ ?_); clear hK) | (refine Qj rfl ?_; simp only [↓reduceIte, Bool.false_eq_true]))
  simp -implicitDefEqProofs only [Option.map_some, Option.some.injEq, List.mapM_nil, Option.pure_def, Option.map_some, QO, Qp, exists_eq_left']
  exact .inr ⟨rfl, rfl⟩
theorem QeP (hi : i < h.length) (hj : j < h.length) (hij : i ≠ j) (hpi : i ≠ p) (hpj : j ≠ p) (g : G) (gp : h[p]? = some (.cells 53 3 [g.goal])) (hx : lexL g.args) (hl : g.args.length ≤ 1000000) (ho : g.op = 12)
    (hG : Xu (HB h i j true (.empty))) (u : Bool) (tx : ByteArray) (hs : tx.size + (funT grdB (txts g.args)).size ≤ 140737488355328) :
    Wri 85 [.ptr i 0 0, .ptr p 0 0] h i j u tx (funT grdB (txts g.args)) := by
  have k1 : ∀ u tx, (HB h i j u tx)[p]? = some (.cells 53 3 [.agg [.i 12, .v (.string g.name), .sl 4 (avs g.args) none]]) := fun u tx => by
    rw [HB, Yb _ _ hpi hpj, gp, ← ho]; rfl
  have z0 : ((12 : Int) == 0) = false := by decide
  have z1 : ((12 : Int) == 1) = false := by decide
  have z2 : ((12 : Int) == 2) = false := by decide
  have z11 : ((12 : Int) == 11) = false := by decide
  have c1 := ZL hi hj hij g.args hl grdB (fun a ha h hi hj hG tx hs => QaR g.args hx i j hij a ha h hi hj hG true tx hs) hG u tx hs
  rw [Wri] at c1
  refine Qg Tryz.func85 rfl Tryz.call85 Tryz.ntmps85 (congrArg Array.toList Tryz.results85) (by simp) ?_
  repeat (first | ((first | (with_reducible (first | refine Qa fun K E hK hE => ?_ | refine Qn fun K E hK hE => ?_ | refine FunW.ret (FunW.call c1) ?_))); simp -implicitDefEqProofs only [Qf, Qb, Qi, OpW, QW, aop, undef, AS.ev, Qc, Qq, QM, Qm, QC, List.getD_cons_zero, List.getD_cons_succ, Qr, ↓reduceIte, Nat.reduceLT, Nat.reduceEqDiff, Nat.zero_add, Nat.add_zero, Ql, QI, QJ, aBin, List.getElem?_cons_zero, List.getElem?_cons_succ, Option.map_some, List.map_cons, List.map_nil, QU, beq_self_eq_true, ti3, ti44, XR, Yg, k1, z0, z1, z2, z11]) | (with_reducible (first | refine Qk ?_ | refine Qs ?_)) | ((with_reducible refine hK _ ?_); clear hK) | (refine Qj rfl ?_; simp only [↓reduceIte, Bool.false_eq_true]))
  simp -implicitDefEqProofs only [Option.map_some, Option.some.injEq, List.mapM_nil, Option.pure_def, Option.map_some, QO, Qp, exists_eq_left']
  exact .inr ⟨rfl, rfl⟩
theorem Qhj (hi : i < h.length) (hj : j < h.length) (hij : i ≠ j) (hpi : i ≠ p) (hpj : j ≠ p) (op : Int) (n : ByteArray) (a c : T) (gp : h[p]? = some (.cells 53 3 [.agg [.i op, .v (.string n), .sl 4 (avs [a, c]) none]])) (hx : lexL [a, c]) (h3 : 3 ≤ op) (h10 : op ≤ 10)
    (hG : Xu (HB h i j true (.empty))) (u : Bool) (tx : ByteArray) (hs : tx.size + (pairT op (txts [a, c])).size ≤ 140737488355328) :
    Wri 85 [.ptr i 0 0, .ptr p 0 0] h i j u tx (pairT op (txts [a, c])) := by
  have k1 : ∀ u tx, (HB h i j u tx)[p]? = some (.cells 53 3 [.agg [.i op, .v (.string n), .sl 4 (avs [a, c]) none]]) := fun u tx => by
    rw [HB, Yb _ _ hpi hpj, gp]
  have f6 := fun u tx => Qf5 (h := h) hi hij u tx
  have et : pairT op (txts [a, c]) = (a.txt ++ (({ data := #[32] } : ByteArray) ++ QeT op ++ { data := #[32] })) ++ c.txt := rfl
  rw [et] at hs ⊢
  simp only [Qu] at hs
  have hsp : ({ data := #[32] } : ByteArray).size = 1 := rfl
  have cb := Qe8 op h3 h10
  have hbz := Qdr op h3 h10
  have c1 := T.Qj8 a hx.1 i j hij h hi hj hG u tx (by omega)
  have c2 := wstr hi hj hij true (tx ++ a.txt) (({ data := #[32] } : ByteArray) ++ QeT op ++ { data := #[32] }) (by simp only [Qu]; omega)
  have c3 := T.Qj8 c hx.2.1 i j hij h hi hj hG true ((tx ++ a.txt) ++ (({ data := #[32] } : ByteArray) ++ QeT op ++ { data := #[32] })) (by simp only [Qu]; omega)
  rw [Wri] at c1 c3
  have z0 : (op == 0) = false := by simp; omega
  have z1 : (op == 1) = false := by simp; omega
  have z2 : (op == 2) = false := by simp; omega
  have z11 : (op == 11) = false := by simp; omega
  have z12 : (op == 12) = false := by simp; omega
  have hsa1 := fun xo yo => ZZ Tryz.prog 9 xo yo ({ data := #[32] } : ByteArray) (QeT op) (by omega)
  have hsa2 := fun xo yo => ZZ Tryz.prog 9 xo yo (({ data := #[32] } : ByteArray) ++ QeT op) { data := #[32] } (by rw [Qu]; omega)
  have ga : (avs [a, c])[0]? = some a.av := rfl
  have gc : (avs [a, c])[1]? = some c.av := rfl
  have hll : (avs [a, c]).length = 2 := rfl
  have y0 : ((0 : Int) ≤ 1) = True := by simp
  have y1 : ((0 : Int) < ((2 : Nat) : Int)) = True := by simp
  have y2 : ((1 : Int) < ((2 : Nat) : Int)) = True := by simp
  refine Qg Tryz.func85 rfl Tryz.call85 Tryz.ntmps85 (congrArg Array.toList Tryz.results85) (by simp) ?_
  repeat (first | ((first | (with_reducible (first | refine Qa fun K E hK hE => ?_ | refine Qn fun K E hK hE => ?_ | refine QP cb ?_ | refine FunW.ret (FunW.call c1) ?_ | refine FunW.ret (FunW.call c3) ?_ | refine Xz (FunW.call c2) Zw ?_)) | (refine QQ (id := 2) [(0, 0), (1, 0), (2, 0), (3, 0), (4, 0), (5, 1), (6, 0), (7, 0), (8, 2)] mixed (by kernel_rfl) fun K hK => ?_)); simp -implicitDefEqProofs only [Xc, Q7, Xn, Qf, Qb, Qi, OpW, QW, aop, undef, AS.ev, Qc, Qq, QM, Qm, QC, List.getD_cons_zero, List.getD_cons_succ, Qr, ↓reduceIte, List.length_cons, List.length_nil, Nat.reduceAdd, Nat.reduceLT, Nat.reduceLeDiff, Nat.reduceEqDiff, Nat.zero_add, Nat.add_zero, and_self, Ql, QI, QJ, QL, aBin, List.getElem?_cons_zero, List.getElem?_cons_succ, Option.map_some, List.getElem?_toArray, List.map_cons, List.map_nil, QU, Int.toNat_zero, Int.toNat_one, T.Qj2, T.Qj4, ti3, ti44, ei44, XR, Yg, ti69, Yf, Int.le_refl, Q0, k1, f6, z0, z1, z2, z11, z12, hsa1, hsa2, ga, gc, hll, y0, y1, y2, T.Qj4, T.Qj2]) | (with_reducible (first | refine Qk ?_ | refine Qs ?_)) | ((with_reducible refine hK _ ?_); clear hK) | (refine Qj rfl ?_; simp only [↓reduceIte, Bool.false_eq_true]))
  simp -implicitDefEqProofs only [Option.map_some, Option.some.injEq, List.mapM_nil, Option.pure_def, Option.map_some, QO, Qp, exists_eq_left']
  exact .inr ⟨rfl, by simp only [ByteArray.append_assoc]⟩
end
end Go.Proofs.YtenheconhibonaaGreatDoor.Ab
set_option linter.unusedSimpArgs false
set_option linter.unusedVariables false
set_option maxHeartbeats 4000000
set_option maxRecDepth 4000
namespace Go.Proofs.YtenheconhibonaaGreatDoor.Ab
open Go.Proofs
theorem Zu (g : G) : Pure Tryz.prog 61 [g.goal] (.b (Q8 g)) := by
  intro h
  refine Qg Tryz.func61 rfl Tryz.call61 Tryz.ntmps61 (congrArg Array.toList Tryz.results61) (by simp) ?_
  iterate 4 (try (first | (((with_reducible refine Qa fun K E hK hE => ?_)); simp -implicitDefEqProofs only [Qf, Qb, Qi, OpW, aop, undef, AS.ev, Qc, Qq, Qz, QC, List.getD_cons_zero, AV.Qj3, List.all_cons, List.all_nil, QB, Qw, QH, Bool.and_self, ↓reduceIte, List.length_cons, List.length_nil, Nat.reduceAdd, Nat.reduceLT, Nat.zero_add, Q2]) | ((with_reducible refine hK _ ?_); clear hK)))
  refine X2 (fun s => g.op ≠ 0 ∧ s.tm 1 = .ptr h.length 0 0 ∧ s.tm 3 = .i (ZX g.op) ∧ s.h = h ++ [.cells 53 3 [g.goal]]) ?_ ?_
  · rintro ⟨tm, hp⟩ ⟨k0, t1, t3, hh⟩
    dsimp only at t1 t3 hh
    subst hh
    cases p0 : decide (g.op > 0)
    · skip
      have R : Q8 g = false := by
        rw [Q8, if_neg k0, decide_eq_false (by simp at p0; omega)]; rfl
      iterate 2 (try (first | (((with_reducible refine Qa fun K E hK hE => ?_)); simp -implicitDefEqProofs only [Qf, Qb, Qi, OpW, aop, AS.ev, Qc, Qq, Qm, AV.Qj3, Qr, Q3, QD, List.all_cons, List.all_nil, QB, Bool.and_self, ↓reduceIte, List.length_cons, List.length_nil, Nat.reduceLT, Nat.reduceLeDiff, Nat.zero_add, and_self, Za, Zm, hlen, happ, List.getElem?_cons_zero, Option.map_some, List.map_cons, List.map_nil, List.cons_append, List.nil_append, List.append_nil, List.take_zero, List.drop_succ_cons, List.drop_zero, Qe0, Qfu]) | ((with_reducible refine hK _ ?_); clear hK)))
      (with_reducible refine Qa fun K E hK hE => ?_)
      (try simp only [List.toList_toArray]); refine QT 8 (fun K1 hK1 => ?_); simp -implicitDefEqProofs only [Qf, Qb, Qi, OpW, aop, undef, AS.ev, Qc, Qq, Qz, Qm, ↓reduceIte, Nat.reduceLT, Nat.reduceEqDiff, Nat.add_zero, Ql, QI, QJ, aBin, QX, List.getElem?_cons_zero, List.getElem?_cons_succ, Option.map_some, Option.bind_some, List.getElem?_toArray, List.take_succ_cons, List.take_zero, Q6, Bool.false_eq_true, beq_true, ti3, XR, Q2, t1, p0]; refine hK1 _ ?_; clear hK1
      (try simp only [List.drop_succ_cons, List.drop_zero]); refine QT 6 (fun K1 hK1 => ?_); simp -implicitDefEqProofs only [Qf, Qb, Qi, OpW, aop, undef, AS.ev, Qc, Qz, Qm, ↓reduceIte, Nat.reduceLT, Nat.reduceEqDiff, List.getElem?_cons_zero, List.getElem?_cons_succ, Option.bind_some, List.getElem?_toArray, List.take_succ_cons, List.take_zero, Bool.false_eq_true, beq_true]; refine hK1 _ ?_; clear hK1
      (try simp only [List.drop_succ_cons, List.drop_zero]); refine QT 6 (fun K1 hK1 => ?_); simp -implicitDefEqProofs only [Qf, Qb, Qi, OpW, aop, undef, AS.ev, Qc, Qz, Qm, ↓reduceIte, Nat.reduceLT, Nat.reduceEqDiff, List.getElem?_cons_zero, List.getElem?_cons_succ, Option.bind_some, List.getElem?_toArray, List.take_succ_cons, List.take_zero, Bool.false_eq_true, beq_true]; refine hK1 _ ?_; clear hK1
      (try simp only [List.drop_succ_cons, List.drop_zero])
      simp -implicitDefEqProofs only [Qf, Qb, Qi, OpW, aop, undef, AS.ev, Qc, Qz, Qm, ↓reduceIte, Nat.reduceLT, Nat.reduceEqDiff, List.getElem?_cons_zero, List.getElem?_cons_succ, Option.bind_some, List.getElem?_toArray, Bool.false_eq_true, beq_true]
      repeat (first | (with_reducible refine Qo ?_) | ((with_reducible refine hK _ ?_); clear hK))
      simp only [QO, Qp, Qv, upd, ↓reduceIte, Option.some.injEq, exists_eq_left']; first | refine Qd (htake _ _) (.keep (.v _)) ⟨by rw [R], rfl⟩ | refine Qd List.take_length (.keep (.v _)) ⟨by rw [R], rfl⟩
    cases p1 : decide (g.op ≤ 12)
    · skip
      have R : Q8 g = false := by
        rw [Q8, if_neg k0, decide_eq_false (by simp at p1; omega)]; rfl
      iterate 2 (try (first | (((with_reducible refine Qa fun K E hK hE => ?_)); simp -implicitDefEqProofs only [Qf, Qb, Qi, OpW, aop, AS.ev, Qc, Qq, Qm, AV.Qj3, Qr, Q3, QD, List.all_cons, List.all_nil, QB, Bool.and_self, ↓reduceIte, List.length_cons, List.length_nil, Nat.reduceLT, Nat.reduceLeDiff, Nat.zero_add, and_self, Za, Zm, hlen, happ, List.getElem?_cons_zero, Option.map_some, List.map_cons, List.map_nil, List.cons_append, List.nil_append, List.append_nil, List.take_zero, List.drop_succ_cons, List.drop_zero, Qe0, Qfu]) | ((with_reducible refine hK _ ?_); clear hK)))
      (with_reducible refine Qa fun K E hK hE => ?_)
      (try simp only [List.toList_toArray]); refine QT 8 (fun K1 hK1 => ?_); simp -implicitDefEqProofs only [Qf, Qb, Qi, OpW, aop, AS.ev, Qc, Qq, Qm, ↓reduceIte, Nat.reduceLT, Nat.reduceEqDiff, Nat.add_zero, Ql, QI, QJ, aBin, QX, List.getElem?_cons_zero, List.getElem?_cons_succ, Option.map_some, Option.bind_some, List.getElem?_toArray, List.take_succ_cons, List.take_zero, YB, Q6, beq_self_eq_true, ti3, XR, Q2, t1, p0, p1]; refine hK1 _ ?_; clear hK1
      (try simp only [List.drop_succ_cons, List.drop_zero]); refine QT 6 (fun K1 hK1 => ?_); simp -implicitDefEqProofs only [Qf, Qb, Qi, OpW, aop, undef, AS.ev, Qc, Qz, Qm, ↓reduceIte, Nat.reduceLT, Nat.reduceEqDiff, List.getElem?_cons_zero, List.getElem?_cons_succ, Option.bind_some, List.getElem?_toArray, List.take_succ_cons, List.take_zero, Bool.false_eq_true, beq_true]; refine hK1 _ ?_; clear hK1
      (try simp only [List.drop_succ_cons, List.drop_zero]); refine QT 6 (fun K1 hK1 => ?_); simp -implicitDefEqProofs only [Qf, Qb, Qi, OpW, aop, undef, AS.ev, Qc, Qz, Qm, ↓reduceIte, Nat.reduceLT, Nat.reduceEqDiff, List.getElem?_cons_zero, List.getElem?_cons_succ, Option.bind_some, List.getElem?_toArray, List.take_succ_cons, List.take_zero, Bool.false_eq_true, beq_true]; refine hK1 _ ?_; clear hK1
      (try simp only [List.drop_succ_cons, List.drop_zero])
      simp -implicitDefEqProofs only [Qf, Qb, Qi, OpW, aop, undef, AS.ev, Qc, Qz, Qm, ↓reduceIte, Nat.reduceLT, Nat.reduceEqDiff, List.getElem?_cons_zero, List.getElem?_cons_succ, Option.bind_some, List.getElem?_toArray, Bool.false_eq_true, beq_true]
      repeat (first | (with_reducible refine Qo ?_) | ((with_reducible refine hK _ ?_); clear hK))
      simp only [QO, Qp, Qv, upd, ↓reduceIte, Option.some.injEq, exists_eq_left']; first | refine Qd (htake _ _) (.keep (.v _)) ⟨by rw [R], rfl⟩ | refine Qd List.take_length (.keep (.v _)) ⟨by rw [R], rfl⟩
    have p2 : decide (0 < g.op ∧ g.op ≤ 12) = true := decide_eq_true ⟨of_decide_eq_true p0, of_decide_eq_true p1⟩
    cases c3 : YH g.name
    · have c3' : (g.name.toList == ({ data := #[] } : ByteArray).toList) = false := c3
      have R : Q8 g = false := by
        rw [Q8, if_neg k0, p2, c3]; rfl
      iterate 2 (try (first | (((with_reducible refine Qa fun K E hK hE => ?_)); simp -implicitDefEqProofs only [Qf, Qb, Qi, OpW, aop, AS.ev, Qc, Qq, Qm, AV.Qj3, Qr, Q3, QD, List.all_cons, List.all_nil, QB, Bool.and_self, ↓reduceIte, List.length_cons, List.length_nil, Nat.reduceLT, Nat.reduceLeDiff, Nat.zero_add, and_self, Za, Zm, hlen, happ, List.getElem?_cons_zero, Option.map_some, List.map_cons, List.map_nil, List.cons_append, List.nil_append, List.append_nil, List.take_zero, List.drop_succ_cons, List.drop_zero, Qe0, Qfu]) | ((with_reducible refine hK _ ?_); clear hK)))
      (with_reducible refine Qa fun K E hK hE => ?_)
      (try simp only [List.toList_toArray]); refine QT 8 (fun K1 hK1 => ?_); simp -implicitDefEqProofs only [Qf, Qb, Qi, OpW, aop, AS.ev, Qc, Qq, Qm, ↓reduceIte, Nat.reduceLT, Nat.reduceEqDiff, Nat.add_zero, Ql, QI, QJ, aBin, QX, List.getElem?_cons_zero, List.getElem?_cons_succ, Option.map_some, Option.bind_some, List.getElem?_toArray, List.take_succ_cons, List.take_zero, YB, Q6, beq_self_eq_true, ti3, XR, Q2, t1, p0, p1]; refine hK1 _ ?_; clear hK1
      (try simp only [List.drop_succ_cons, List.drop_zero]); refine QT 6 (fun K1 hK1 => ?_); simp -implicitDefEqProofs only [Qf, Qb, Qi, OpW, aop, AS.ev, Qc, QM, Qm, ↓reduceIte, Nat.reduceLT, Nat.reduceEqDiff, Nat.zero_add, Ql, QI, QJ, aBin, QX, List.getElem?_cons_zero, List.getElem?_cons_succ, Option.map_some, Option.bind_some, List.getElem?_toArray, List.take_succ_cons, List.take_zero, Xm, beq_self_eq_true, ti9, YZ, Q2, t1, c3']; refine hK1 _ ?_; clear hK1
      (try simp only [List.drop_succ_cons, List.drop_zero]); refine QT 6 (fun K1 hK1 => ?_); simp -implicitDefEqProofs only [Qf, Qb, Qi, OpW, aop, undef, AS.ev, Qc, Qz, Qm, ↓reduceIte, Nat.reduceLT, Nat.reduceEqDiff, List.getElem?_cons_zero, List.getElem?_cons_succ, Option.bind_some, List.getElem?_toArray, List.take_succ_cons, List.take_zero, Bool.false_eq_true, beq_true]; refine hK1 _ ?_; clear hK1
      (try simp only [List.drop_succ_cons, List.drop_zero])
      simp -implicitDefEqProofs only [Qf, Qb, Qi, OpW, aop, undef, AS.ev, Qc, Qz, Qm, ↓reduceIte, Nat.reduceLT, Nat.reduceEqDiff, List.getElem?_cons_zero, List.getElem?_cons_succ, Option.bind_some, List.getElem?_toArray, Bool.false_eq_true, beq_true]
      repeat (first | (with_reducible refine Qo ?_) | ((with_reducible refine hK _ ?_); clear hK))
      simp only [QO, Qp, Qv, upd, ↓reduceIte, Option.some.injEq, exists_eq_left']; first | refine Qd (htake _ _) (.keep (.v _)) ⟨by rw [R], rfl⟩ | refine Qd List.take_length (.keep (.v _)) ⟨by rw [R], rfl⟩
    have c3' : (g.name.toList == ({ data := #[] } : ByteArray).toList) = true := c3
    cases c4 : ((g.args.length : Int) == ZX g.op)
    · have c5 : decide ((g.args.length : Int) = ZX g.op) = false := decide_eq_false (by simpa using c4)
      have R : Q8 g = false := by
        rw [Q8, if_neg k0, p2, c3, c5]; rfl
      iterate 2 (try (first | (((with_reducible refine Qa fun K E hK hE => ?_)); simp -implicitDefEqProofs only [Qf, Qb, Qi, OpW, aop, AS.ev, Qc, Qq, Qm, AV.Qj3, Qr, Q3, QD, List.all_cons, List.all_nil, QB, Bool.and_self, ↓reduceIte, List.length_cons, List.length_nil, Nat.reduceLT, Nat.reduceLeDiff, Nat.zero_add, and_self, Za, Zm, hlen, happ, List.getElem?_cons_zero, Option.map_some, List.map_cons, List.map_nil, List.cons_append, List.nil_append, List.append_nil, List.take_zero, List.drop_succ_cons, List.drop_zero, Qe0, Qfu]) | ((with_reducible refine hK _ ?_); clear hK)))
      (with_reducible refine Qa fun K E hK hE => ?_)
      (try simp only [List.toList_toArray]); refine QT 8 (fun K1 hK1 => ?_); simp -implicitDefEqProofs only [Qf, Qb, Qi, OpW, aop, AS.ev, Qc, Qq, Qm, ↓reduceIte, Nat.reduceLT, Nat.reduceEqDiff, Nat.add_zero, Ql, QI, QJ, aBin, QX, List.getElem?_cons_zero, List.getElem?_cons_succ, Option.map_some, Option.bind_some, List.getElem?_toArray, List.take_succ_cons, List.take_zero, YB, Q6, beq_self_eq_true, ti3, XR, Q2, t1, p0, p1]; refine hK1 _ ?_; clear hK1
      (try simp only [List.drop_succ_cons, List.drop_zero]); refine QT 6 (fun K1 hK1 => ?_); simp -implicitDefEqProofs only [Qf, Qb, Qi, OpW, aop, AS.ev, Qc, QM, Qm, ↓reduceIte, Nat.reduceLT, Nat.reduceEqDiff, Nat.zero_add, Ql, QI, QJ, aBin, QX, List.getElem?_cons_zero, List.getElem?_cons_succ, Option.map_some, Option.bind_some, List.getElem?_toArray, List.take_succ_cons, List.take_zero, Xm, beq_self_eq_true, ti9, YZ, Q2, t1, c3']; refine hK1 _ ?_; clear hK1
      (try simp only [List.drop_succ_cons, List.drop_zero]); refine QT 6 (fun K1 hK1 => ?_); simp -implicitDefEqProofs only [Qf, Qb, Qi, OpW, aop, AS.ev, Qc, Qm, ↓reduceIte, Nat.reduceLT, Nat.reduceEqDiff, Nat.zero_add, Ql, QI, QJ, aBin, aLen, QX, List.getElem?_cons_zero, List.getElem?_cons_succ, Option.map_some, Option.bind_some, List.getElem?_toArray, List.take_succ_cons, List.take_zero, QU, goInt, beq_self_eq_true, QG, ti44, un44, Yg, Q2, QG, t1, t3, c4]; refine hK1 _ ?_; clear hK1
      (try simp only [List.drop_succ_cons, List.drop_zero])
      simp -implicitDefEqProofs only [Qf, Qb, Qi, OpW, aop, undef, AS.ev, Qc, Qz, Qm, ↓reduceIte, Nat.reduceLT, Nat.reduceEqDiff, List.getElem?_cons_zero, List.getElem?_cons_succ, Option.bind_some, List.getElem?_toArray, Bool.false_eq_true, beq_true]
      repeat (first | (with_reducible refine Qo ?_) | ((with_reducible refine hK _ ?_); clear hK))
      simp only [QO, Qp, Qv, upd, ↓reduceIte, Option.some.injEq, exists_eq_left']; first | refine Qd (htake _ _) (.keep (.v _)) ⟨by rw [R], rfl⟩ | refine Qd List.take_length (.keep (.v _)) ⟨by rw [R], rfl⟩
    have c5 : decide ((g.args.length : Int) = ZX g.op) = true := decide_eq_true (by simpa using c4)
    have c6 : (g.args.length : Int) ≤ 2 := by
      have c7 : (g.args.length : Int) = ZX g.op := by simpa using c4
      rw [c7, ZX]; split <;> (try split) <;> decide
    have ca := Qjj g.args (by omega) (h ++ [.cells 53 3 [g.goal], .cells 149 1 [.agg [.i 200]]]) (h.length + 1) (by rw [hget]; rfl)
    rw [hset] at ca
    have R : Q8 g = (runL g.args 200 20).1 := by
      rw [Q8, if_neg k0, p2, c3, c5]; rfl
    iterate 2 (try (first | (((with_reducible refine Qa fun K E hK hE => ?_)); simp -implicitDefEqProofs only [Qf, Qb, Qi, OpW, aop, AS.ev, Qc, Qq, Qm, AV.Qj3, Qr, Q3, QD, List.all_cons, List.all_nil, QB, Bool.and_self, ↓reduceIte, List.length_cons, List.length_nil, Nat.reduceLT, Nat.reduceLeDiff, Nat.zero_add, and_self, Za, Zm, hlen, happ, List.getElem?_cons_zero, Option.map_some, List.map_cons, List.map_nil, List.cons_append, List.nil_append, List.append_nil, List.take_zero, List.drop_succ_cons, List.drop_zero, Qe0, Qfu]) | ((with_reducible refine hK _ ?_); clear hK)))
    (with_reducible refine Qa fun K E hK hE => ?_)
    (try simp only [List.toList_toArray]); refine QT 8 (fun K1 hK1 => ?_); simp -implicitDefEqProofs only [Qf, Qb, Qi, OpW, aop, AS.ev, Qc, Qq, Qm, ↓reduceIte, Nat.reduceLT, Nat.reduceEqDiff, Nat.add_zero, Ql, QI, QJ, aBin, QX, List.getElem?_cons_zero, List.getElem?_cons_succ, Option.map_some, Option.bind_some, List.getElem?_toArray, List.take_succ_cons, List.take_zero, YB, Q6, beq_self_eq_true, ti3, XR, Q2, t1, p0, p1]; refine hK1 _ ?_; clear hK1
    (try simp only [List.drop_succ_cons, List.drop_zero]); refine QT 6 (fun K1 hK1 => ?_); simp -implicitDefEqProofs only [Qf, Qb, Qi, OpW, aop, AS.ev, Qc, QM, Qm, ↓reduceIte, Nat.reduceLT, Nat.reduceEqDiff, Nat.zero_add, Ql, QI, QJ, aBin, QX, List.getElem?_cons_zero, List.getElem?_cons_succ, Option.map_some, Option.bind_some, List.getElem?_toArray, List.take_succ_cons, List.take_zero, Xm, beq_self_eq_true, ti9, YZ, Q2, t1, c3']; refine hK1 _ ?_; clear hK1
    (try simp only [List.drop_succ_cons, List.drop_zero]); refine QT 6 (fun K1 hK1 => ?_); simp -implicitDefEqProofs only [Qf, Qb, Qi, OpW, aop, AS.ev, Qc, Qm, ↓reduceIte, Nat.reduceLT, Nat.reduceEqDiff, Nat.zero_add, Ql, QI, QJ, aBin, aLen, QX, List.getElem?_cons_zero, List.getElem?_cons_succ, Option.map_some, Option.bind_some, List.getElem?_toArray, List.take_succ_cons, List.take_zero, QU, goInt, beq_self_eq_true, QG, ti44, un44, Yg, Q2, QG, t1, t3, c4]; refine hK1 _ ?_; clear hK1
    (try simp only [List.drop_succ_cons, List.drop_zero])
    simp -implicitDefEqProofs only [Qb, Qi, OpW, aop, AS.ev, Qc, Qq, Qm, ↓reduceIte, Nat.reduceLT, Nat.reduceEqDiff, Nat.zero_add, Ql, QI, QJ, QX, List.getElem?_cons_zero, List.getElem?_cons_succ, Option.map_some, Option.bind_some, List.getElem?_toArray, List.map_cons, List.map_nil, beq_self_eq_true, ti44, Yg, Q2, t1]
    repeat (first | (((with_reducible refine FunW.ret (FunW.call ca) ?_)); simp -implicitDefEqProofs only [Qf, Qb, Qi, OpW, QW, aop, AS.ev, Qc, Qm, ↓reduceIte, Nat.reduceLT, Nat.reduceEqDiff, List.set_cons_zero, List.set_cons_succ]) | (with_reducible refine Qo ?_) | ((with_reducible refine hK _ ?_); clear hK))
    simp only [QO, Qp, Qv, upd, ↓reduceIte, Option.some.injEq, exists_eq_left']; first | refine Qd (htake _ _) (.keep (.v _)) ⟨by rw [R], rfl⟩ | refine Qd List.take_length (.keep (.v _)) ⟨by rw [R], rfl⟩
  · by_cases k0 : g.op = 0
    · have c := Zt ⟨0, g.name, g.args⟩
      rw [show G.atom ⟨0, g.name, g.args⟩ = AV.agg [.v (.string g.name), .sl 4 (avs g.args) none] from rfl] at c
      have R : Q8 g = Xg ⟨0, g.name, g.args⟩ := by
        rw [Q8, if_pos k0]
      have z0 : (g.op == 0) = true := by simp [k0]
      repeat (first | ((first | (with_reducible (first | refine Qa fun K E hK hE => ?_ | refine Qy c ?_))); simp -implicitDefEqProofs only [Qf, Qb, Qi, OpW, QW, aop, undef, AS.ev, Qc, Qq, Qm, QC, AV.Qj3, Qr, Q3, Xp, QD, List.all_cons, List.all_nil, Qw, QN, QH, Bool.and_self, ↓reduceIte, List.length_cons, List.length_nil, Nat.reduceAdd, Nat.reduceLT, Nat.reduceLeDiff, Nat.reduceEqDiff, Nat.zero_add, Nat.add_zero, and_self, Ql, QI, QJ, aBin, Za, Zm, QX, List.getElem?_cons_zero, List.getElem?_cons_succ, Option.map_some, List.map_cons, List.map_nil, List.cons_append, List.nil_append, List.append_nil, List.take_succ_cons, List.take_zero, List.drop_succ_cons, List.drop_zero, QU, ti3, ti9, ti44, XR, YZ, Yg, zi66, sp66, Q2, z0]) | (with_reducible (first | refine Qk ?_ | refine Qo ?_ | refine QA ?_ | refine QE ?_)) | ((with_reducible refine hK _ ?_); clear hK) | (refine Qj rfl ?_; simp only [↓reduceIte]))
      simp only [QO, Qp, Qv, upd, ↓reduceIte, Option.some.injEq, exists_eq_left']; first | refine Qd (htake _ _) (.keep (.v _)) ⟨by rw [R], rfl⟩ | refine Qd List.take_length (.keep (.v _)) ⟨by rw [R], rfl⟩
    have z0 : (g.op == 0) = false := by simp [k0]
    by_cases k1 : g.op = 1
    · have z1 : (g.op == 1) = true := by simp [k1]
      have gn : ZX g.op = 0 := by simp [ZX, k1]
      repeat (first | ((first | (with_reducible (first | refine Qa fun K E hK hE => ?_ | refine Qn fun K E hK hE => ?_))); simp -implicitDefEqProofs only [Qf, Qb, Qi, OpW, aop, AS.ev, Qc, Qq, Qm, ↓reduceIte, Nat.reduceLT, Nat.reduceEqDiff, Nat.add_zero, Ql, QI, QJ, aBin, QX, List.getElem?_cons_zero, Option.map_some, QU, ti3, XR, Q2, z0, z1]) | (with_reducible (first | refine Qh fun K hK => ?_ | refine Qk ?_ | refine Qt ?_ | refine Qe ?_ | refine Qs ?_)) | ((with_reducible refine hK _ ?_); clear hK) | (refine Qj rfl ?_; simp only [↓reduceIte, Bool.false_eq_true]))
      exact ⟨k0, rfl, by rw [gn]; rfl, rfl⟩
    have z1 : (g.op == 1) = false := by simp [k1]
    by_cases k2 : g.op = 2
    · have z2 : (g.op == 2) = true := by simp [k2]
      have gn : ZX g.op = 0 := by simp [ZX, k2]
      repeat (first | ((first | (with_reducible (first | refine Qa fun K E hK hE => ?_ | refine Qn fun K E hK hE => ?_))); simp -implicitDefEqProofs only [Qf, Qb, Qi, OpW, aop, AS.ev, Qc, Qq, Qm, ↓reduceIte, Nat.reduceLT, Nat.reduceEqDiff, Nat.add_zero, Ql, QI, QJ, aBin, QX, List.getElem?_cons_zero, Option.map_some, QU, ti3, XR, Q2, z0, z1, z2]) | (with_reducible (first | refine Qh fun K hK => ?_ | refine Qk ?_ | refine Qe ?_ | refine Qs ?_)) | ((with_reducible refine hK _ ?_); clear hK) | (refine Qj rfl ?_; simp only [↓reduceIte, Bool.false_eq_true]))
      exact ⟨k0, rfl, by rw [gn]; rfl, rfl⟩
    have z2 : (g.op == 2) = false := by simp [k2]
    by_cases k11 : g.op = 11
    · have z11 : (g.op == 11) = true := by simp [k11]
      have gn : ZX g.op = 1 := by simp [ZX, k11]
      repeat (first | ((first | (with_reducible (first | refine Qa fun K E hK hE => ?_ | refine Qn fun K E hK hE => ?_))); simp -implicitDefEqProofs only [Qf, Qb, Qi, OpW, aop, AS.ev, Qc, Qq, Qm, ↓reduceIte, Nat.reduceLT, Nat.reduceEqDiff, Nat.add_zero, Ql, QI, QJ, aBin, QX, List.getElem?_cons_zero, Option.map_some, QU, ti3, XR, Q2, z0, z1, z2, z11]) | (with_reducible (first | refine Qh fun K hK => ?_ | refine Qk ?_ | refine Qt ?_ | refine Qe ?_ | refine Qs ?_)) | ((with_reducible refine hK _ ?_); clear hK) | (refine Qj rfl ?_; simp only [↓reduceIte, Bool.false_eq_true]))
      exact ⟨k0, rfl, by rw [gn]; rfl, rfl⟩
    have z11 : (g.op == 11) = false := by simp [k11]
    by_cases k12 : g.op = 12
    · have z12 : (g.op == 12) = true := by simp [k12]
      have gn : ZX g.op = 1 := by simp [ZX, k12]
      repeat (first | ((first | (with_reducible (first | refine Qa fun K E hK hE => ?_ | refine Qn fun K E hK hE => ?_))); simp -implicitDefEqProofs only [Qf, Qb, Qi, OpW, aop, AS.ev, Qc, Qq, Qm, ↓reduceIte, Nat.reduceLT, Nat.reduceEqDiff, Nat.add_zero, Ql, QI, QJ, aBin, QX, List.getElem?_cons_zero, Option.map_some, QU, ti3, XR, Q2, z0, z1, z2, z11, z12]) | (with_reducible (first | refine Qh fun K hK => ?_ | refine Qk ?_ | refine Qe ?_ | refine Qs ?_)) | ((with_reducible refine hK _ ?_); clear hK) | (refine Qj rfl ?_; simp only [↓reduceIte, Bool.false_eq_true]))
      exact ⟨k0, rfl, by rw [gn]; rfl, rfl⟩
    have z12 : (g.op == 12) = false := by simp [k12]
    have gn : ZX g.op = 2 := by simp [ZX, k1, k2, k11, k12]
    repeat (first | ((first | (with_reducible (first | refine Qa fun K E hK hE => ?_ | refine Qn fun K E hK hE => ?_))); simp -implicitDefEqProofs only [Qf, Qb, Qi, OpW, aop, AS.ev, Qc, Qq, Qm, ↓reduceIte, Nat.reduceLT, Nat.reduceEqDiff, Nat.add_zero, Ql, QI, QJ, aBin, QX, List.getElem?_cons_zero, Option.map_some, QU, ti3, XR, Q2, z0, z1, z2, z11, z12]) | (with_reducible (first | refine Qh fun K hK => ?_ | refine Qk ?_ | refine Qt ?_ | refine Qe ?_ | refine Qs ?_)) | ((with_reducible refine hK _ ?_); clear hK) | (refine Qj rfl ?_; simp only [↓reduceIte, Bool.false_eq_true]))
    exact ⟨k0, rfl, by rw [gn]; rfl, rfl⟩
end Go.Proofs.YtenheconhibonaaGreatDoor.Ab
set_option linter.unusedSimpArgs false
set_option linter.unusedVariables false
set_option maxHeartbeats 4000000
set_option maxRecDepth 4000
namespace Go.Proofs.YtenheconhibonaaGreatDoor.Ab
open Go.Proofs
def txtA (g : G) : ByteArray := if Xg g = true then funT g.name (txts g.args) else { data := #[] }
def txtG (g : G) : ByteArray := if Q8 g = true then Z5 g else { data := #[] }
theorem QcS {s : ByteArray} {l : List ByteArray} (h0 : 1 ≤ s.size) : 1 ≤ (funT s l).size := by rw [funT, Qu]; omega
theorem QfF (s : ByteArray) (l : List ByteArray) : (funT s l).size ≤ s.size + 2 + (l.map fun x => x.size + 2).sum := by
  rw [funT, Qu]
  have e1 := Qer (decide (0 < l.length)) (XP true l)
  have e2 := QdN l true
  omega
theorem Qbj {g : G} (h : Xg g = true) : lexL g.args ∧ g.args.length ≤ 6 ∧ 1 ≤ (funT g.name (txts g.args)).size ∧ (funT g.name (txts g.args)).size ≤ 15000 := by
  simp only [Xg, Bool.and_eq_true, decide_eq_true_eq] at h
  obtain ⟨h1, h2, h3⟩ := h
  have hn := ZJ h1
  have hl := Qck g.args 200 20 h3
  have hr := Qcn g.args 200 20 (by omega) h3
  refine ⟨hl.1, h2, QcS hn.1, ?_⟩
  have := QfF g.name (txts g.args)
  have := hl.2.1
  omega
theorem Qgy {h : AH} (hG : Xu h) (b : AB) : Xu (HB (h ++ [b] ++ [AB.dead, AB.dead]) (h ++ [b]).length ((h ++ [b]).length + 1) true (.empty)) := QjW (hG.app [b]) _ _
theorem Qeu (g : G) (hl : g.args.length ≤ 1000000) (h : AH) (hG : Xu h) : XG Tryz.prog 37 [g.atom] h fun o h' => o = .ret (.v (.string (txtA g))) ∧ h' = h := by
  have cr := Zt g
  cases hr : Xg g with
  | false =>
    rw [hr] at cr
    have c1 := Qix (.fn (.func 83) [] [.ptr h.length 0 0])
    refine Qg Tryz.func37 rfl Tryz.call37 Tryz.ntmps37 (congrArg Array.toList Tryz.results37) (by simp) ?_
    repeat (first | ((first | (with_reducible (first | refine Qa fun K E hK hE => ?_ | refine Qy cr ?_ | refine Qy c1 ?_))); simp -implicitDefEqProofs only [Qf, Qb, Qi, OpW, QW, aop, undef, AS.ev, Qc, QM, Qm, QC, List.getD_cons_zero, AV.Qj3, List.all_cons, List.all_nil, Qw, QH, Bool.and_self, ↓reduceIte, List.length_cons, List.length_nil, Nat.reduceAdd, Nat.reduceLT, Nat.reduceEqDiff, Nat.zero_add, and_self, QI, QJ, QX, List.getElem?_cons_zero, Option.map_some, List.map_cons, List.map_nil, ti66, XI, Qaa]) | (with_reducible refine Qo ?_) | ((with_reducible refine hK _ ?_); clear hK))
    simp only [QO, Qp, Qv, upd, ↓reduceIte, Option.some.injEq, exists_eq_left']; first | refine Qd (htake _ _) (.keep (.v _)) ⟨by rw [txtA, if_neg (by rw [hr]; decide)], rfl⟩ | refine Qd List.take_length (.keep (.v _)) ⟨by rw [txtA, if_neg (by rw [hr]; decide)], rfl⟩
  | true =>
    rw [hr] at cr
    obtain ⟨hx, h6, hs0, hs1⟩ := Qbj hr
    have hk := Qh5 (h := h ++ [AB.cells 66 2 [g.atom]] ++ [AB.dead, AB.dead]) (i := (h ++ [AB.cells 66 2 [g.atom]]).length) (j := (h ++ [AB.cells 66 2 [g.atom]]).length + 1) (p := h.length)
      (by simp) (by simp) (by omega) (by simp) (by simp; omega) g (by simp) hx hl (Qgy hG _) false .empty (by rw [show (ByteArray.empty).size = 0 from rfl]; omega)
    rw [Wri, ByteArray.empty_append] at hk
    have c1 := Qgw (.fn (.func 83) [] [.ptr h.length 0 0]) (.tup []) (funT g.name (txts g.args)) (h ++ [AB.cells 66 2 [g.atom]]) hs0 (by omega) (FunW.fn hk)
    refine Qg Tryz.func37 rfl Tryz.call37 Tryz.ntmps37 (congrArg Array.toList Tryz.results37) (by simp) ?_
    repeat (first | ((first | (with_reducible (first | refine Qa fun K E hK hE => ?_ | refine Qy cr ?_ | refine FunW.ret (FunW.call c1) ?_))); simp -implicitDefEqProofs only [Qf, Qb, Qi, OpW, QW, aop, undef, AS.ev, Qc, QM, Qm, QC, List.getD_cons_zero, AV.Qj3, List.all_cons, List.all_nil, Qw, QH, Bool.and_self, ↓reduceIte, List.length_cons, List.length_nil, Nat.reduceAdd, Nat.reduceLT, Nat.reduceEqDiff, Nat.zero_add, and_self, QI, QJ, QX, List.getElem?_cons_zero, Option.map_some, List.map_cons, List.map_nil, ti66, XI, Qaa]) | (with_reducible refine Qo ?_) | ((with_reducible refine hK _ ?_); clear hK))
    simp only [QO, Qp, Qv, upd, ↓reduceIte, Option.some.injEq, exists_eq_left']; first | refine Qd (htake _ _) (.keep (.v _)) ⟨by rw [txtA, if_pos hr], rfl⟩ | refine Qd List.take_length (.keep (.v _)) ⟨by rw [txtA, if_pos hr], rfl⟩
theorem Qbp {g : G} (h : Q8 g = true) : lexL g.args ∧ g.args.length ≤ 6 ∧ 1 ≤ (Z5 g).size ∧ (Z5 g).size ≤ 15000 ∧
    (g.op = 0 ∨ g.op = 1 ∨ g.op = 2 ∨ g.op = 11 ∨ g.op = 12 ∨ (3 ≤ g.op ∧ g.op ≤ 10 ∧ g.args.length = 2)) := by
  rw [Q8] at h
  by_cases k0 : g.op = 0
  · rw [if_pos k0] at h
    obtain ⟨h1, h2, h3, h4⟩ := Qbj h
    rw [Z5, if_pos k0]
    exact ⟨h1, h2, h3, h4, .inl k0⟩
  rw [if_neg k0] at h
  simp only [Bool.and_eq_true, decide_eq_true_eq] at h
  obtain ⟨h1, hn, h2, h3⟩ := h
  have hl := Qck g.args 200 20 h3
  have hr := Qcn g.args 200 20 (by omega) h3
  have hgn : ZX g.op ≤ 2 := by rw [ZX]; split <;> (try split) <;> decide
  refine ⟨hl.1, by omega, ?_⟩
  rw [Z5, if_neg k0]
  by_cases k1 : g.op = 1
  · rw [if_pos k1]; exact ⟨by decide, by decide, by omega⟩
  rw [if_neg k1]
  by_cases k2 : g.op = 2
  · rw [if_pos k2]; exact ⟨by decide, by decide, by omega⟩
  rw [if_neg k2]
  have hl2 := hl.2.1
  by_cases k11 : g.op = 11
  · rw [if_pos k11]
    refine ⟨QcS (by decide), ?_, by omega⟩
    have := QfF intB (txts g.args)
    have : intB.size = 3 := rfl
    omega
  rw [if_neg k11]
  by_cases k12 : g.op = 12
  · rw [if_pos k12]
    refine ⟨QcS (by decide), ?_, by omega⟩
    have := QfF grdB (txts g.args)
    have : grdB.size = 6 := rfl
    omega
  rw [if_neg k12]
  have hn2 : g.args.length = 2 := by
    have : ZX g.op = 2 := by simp [ZX, k1, k2, k11, k12]
    omega
  have hb := Qdr g.op (by omega) (by omega)
  match hg : g.args, hn2 with
  | [a, c], _ =>
    rw [hg] at hl2 hr
    simp only [txts, pairT, Qu, List.map_cons, List.map_nil, List.sum_cons, List.sum_nil] at hl2 ⊢
    have : ({ data := #[32] } : ByteArray).size = 1 := rfl
    refine ⟨by omega, by omega, .inr (.inr (.inr (.inr (.inr ⟨by omega, by omega, rfl⟩))))⟩
theorem Qia {h : AH} {i j p : Nat} (hi : i < h.length) (hj : j < h.length) (hij : i ≠ j) (hpi : i ≠ p) (hpj : j ≠ p) (g : G) (gp : h[p]? = some (.cells 53 3 [g.goal])) (hr : Q8 g = true)
    (hG : Xu (HB h i j true (.empty))) (u : Bool) (tx : ByteArray) (hs : tx.size + (Z5 g).size ≤ 140737488355328) :
    Wri 85 [.ptr i 0 0, .ptr p 0 0] h i j u tx (Z5 g) := by
  obtain ⟨hx, hl, _, _, ho⟩ := Qbp hr
  have hl' : g.args.length ≤ 1000000 := by omega
  rcases ho with ho | ho | ho | ho | ho | ⟨h3, h10, h2⟩
  · have e : Z5 g = funT g.name (txts g.args) := by simp [Z5, ho]
    rw [e] at hs ⊢; exact Qhe hi hj hij hpi hpj g gp hx hl' ho hG u tx hs
  · have e : Z5 g = Qee := by simp [Z5, ho]
    rw [e] at hs ⊢; exact Qhf hi hj hij hpi hpj g gp hx hl' ho hG u tx hs
  · have e : Z5 g = QhD := by simp [Z5, ho]
    rw [e] at hs ⊢; exact Qg9 hi hj hij hpi hpj g gp hx hl' ho hG u tx hs
  · have e : Z5 g = funT intB (txts g.args) := by simp [Z5, ho]
    rw [e] at hs ⊢; exact Qhs hi hj hij hpi hpj g gp hx hl' ho hG u tx hs
  · have e : Z5 g = funT grdB (txts g.args) := by simp [Z5, ho]
    rw [e] at hs ⊢; exact QeP hi hj hij hpi hpj g gp hx hl' ho hG u tx hs
  · have e : Z5 g = pairT g.op (txts g.args) := by
      rw [Z5, if_neg (by omega), if_neg (by omega), if_neg (by omega), if_neg (by omega), if_neg (by omega)]
    rw [e] at hs ⊢
    obtain ⟨op, n, l⟩ := g
    match l, h2 with
    | [a, c], _ => exact Qhj hi hj hij hpi hpj op n a c gp hx h3 h10 hG u tx hs
theorem QdB (g : G) (hl : g.args.length ≤ 1000000) (h : AH) (hG : Xu h) : XG Tryz.prog 39 [g.goal] h fun o h' => o = .ret (.v (.string (txtG g))) ∧ h' = h := by
  have cr := Zu g
  cases hr : Q8 g with
  | false =>
    rw [hr] at cr
    have c1 := Qix (.fn (.func 85) [] [.ptr h.length 0 0])
    refine Qg Tryz.func39 rfl Tryz.call39 Tryz.ntmps39 (congrArg Array.toList Tryz.results39) (by simp) ?_
    repeat (first | ((first | (with_reducible (first | refine Qa fun K E hK hE => ?_ | refine Qy cr ?_ | refine Qy c1 ?_))); simp -implicitDefEqProofs only [Qf, Qb, Qi, OpW, QW, aop, undef, AS.ev, Qc, QM, Qm, QC, List.getD_cons_zero, AV.Qj3, List.all_cons, List.all_nil, QB, Qw, QH, Bool.and_self, ↓reduceIte, List.length_cons, List.length_nil, Nat.reduceAdd, Nat.reduceLT, Nat.reduceEqDiff, Nat.zero_add, and_self, QI, QJ, QX, List.getElem?_cons_zero, Option.map_some, List.map_cons, List.map_nil, ti53, Q2, Y6]) | (with_reducible refine Qo ?_) | ((with_reducible refine hK _ ?_); clear hK))
    simp only [QO, Qp, Qv, upd, ↓reduceIte, Option.some.injEq, exists_eq_left']; first | refine Qd (htake _ _) (.keep (.v _)) ⟨by rw [txtG, if_neg (by rw [hr]; decide)], rfl⟩ | refine Qd List.take_length (.keep (.v _)) ⟨by rw [txtG, if_neg (by rw [hr]; decide)], rfl⟩
  | true =>
    rw [hr] at cr
    obtain ⟨hx, h6, hs0, hs1, _⟩ := Qbp hr
    have hk := Qia (h := h ++ [AB.cells 53 3 [g.goal]] ++ [AB.dead, AB.dead]) (i := (h ++ [AB.cells 53 3 [g.goal]]).length) (j := (h ++ [AB.cells 53 3 [g.goal]]).length + 1) (p := h.length)
      (by simp) (by simp) (by omega) (by simp) (by simp; omega) g (by simp) hr (Qgy hG _) false .empty (by rw [show (ByteArray.empty).size = 0 from rfl]; omega)
    rw [Wri, ByteArray.empty_append] at hk
    have c1 := Qgw (.fn (.func 85) [] [.ptr h.length 0 0]) (.tup []) (Z5 g) (h ++ [AB.cells 53 3 [g.goal]]) hs0 (by omega) (FunW.fn hk)
    refine Qg Tryz.func39 rfl Tryz.call39 Tryz.ntmps39 (congrArg Array.toList Tryz.results39) (by simp) ?_
    repeat (first | ((first | (with_reducible (first | refine Qa fun K E hK hE => ?_ | refine Qy cr ?_ | refine FunW.ret (FunW.call c1) ?_))); simp -implicitDefEqProofs only [Qf, Qb, Qi, OpW, QW, aop, undef, AS.ev, Qc, QM, Qm, QC, List.getD_cons_zero, AV.Qj3, List.all_cons, List.all_nil, QB, Qw, QH, Bool.and_self, ↓reduceIte, List.length_cons, List.length_nil, Nat.reduceAdd, Nat.reduceLT, Nat.reduceEqDiff, Nat.zero_add, and_self, QI, QJ, QX, List.getElem?_cons_zero, Option.map_some, List.map_cons, List.map_nil, ti53, Q2, Y6]) | (with_reducible refine Qo ?_) | ((with_reducible refine hK _ ?_); clear hK))
    simp only [QO, Qp, Qv, upd, ↓reduceIte, Option.some.injEq, exists_eq_left']; first | refine Qd (htake _ _) (.keep (.v _)) ⟨by rw [txtG, if_pos hr], rfl⟩ | refine Qd List.take_length (.keep (.v _)) ⟨by rw [txtG, if_pos hr], rfl⟩
end Go.Proofs.YtenheconhibonaaGreatDoor.Ab
set_option linter.unusedSimpArgs false
set_option linter.unusedVariables false
set_option maxHeartbeats 4000000
set_option maxRecDepth 4000
namespace Go.Proofs.YtenheconhibonaaGreatDoor.Ab
open Go.Proofs
def HS (h : AH) (i j : Nat) (u : Bool) (tx : ByteArray) : AH := hs2 h i (bw 74 i j u tx) j (.grow 5 1 tx.size)
theorem sTy : BTy 74 := .inl rfl
section
variable {h : AH} {i j : Nat} (hi : i < h.length) (hj : j < h.length) (hij : i ≠ j)
theorem Qgs (h : AH) (i j : Nat) (u : Bool) (tx : ByteArray) : (HS h i j u tx).length = h.length := YY _ _ _ _ _
theorem Qgp (h : AH) (i j : Nat) (u : Bool) (tx : ByteArray) (L : AH) (k : Nat) : (HS h i j u tx ++ L)[h.length + k]? = L[k]? := Qii _ _ _ _
theorem QdX (h : AH) (i j : Nat) (u : Bool) (tx : ByteArray) (z : AB) (L : AH) (k : Nat) : (HS h i j u tx ++ L).set (h.length + k) z = HS h i j u tx ++ L.set k z := QgI _ _ _ _ _
include hi hj in
theorem Qgi (u : Bool) (tx : ByteArray) (L : AH) : HS (h ++ L) i j u tx = HS h i j u tx ++ L := QdF hi hj _ _ _
include hi hij in
theorem QdJ (u : Bool) (tx : ByteArray) (L : AH) : (HS h i j u tx ++ L)[i]? = some (.cells 74 2 [.agg [if u then .ptr i 0 0 else .v (.pointer none), .sl 1 (Xk tx) (some j)]]) := Qe3 hi hij _ _ _
theorem QeK {h : AH} (hG : Xu h) (l : AH) (hl : l.length = 2) (u : Bool) (tx : ByteArray) : Xu (HS (h ++ l) h.length (h.length + 1) u tx) := by
  obtain ⟨k, ty, fr, e⟩ := hG
  refine ⟨k, ty, fr, ?_⟩
  have hk := QK e
  rw [HS, Yb _ _ (by omega) (by omega), List.getElem?_append_left hk, e]
end
theorem sstr {h : AH} {i j : Nat} (hi : i < h.length) (hj : j < h.length) (hij : i ≠ j) (u : Bool) (tx s : ByteArray) (hs : tx.size + s.size ≤ 140737488355328) :
    XG Tryz.prog 35 [.ptr i 0 0, .v (.string s)] (HS h i j u tx) fun o h' => o = .ret (.tup [.i s.size, .v .nilIface]) ∧ h' = HS h i j true (tx ++ s) :=
  QaH sTy hij u tx s hs h hi hj
/-- a builder of one's own, and its token -/
theorem QhQ (h : AH) (u : Bool) (tx : ByteArray) : HS (h ++ [AB.dead, AB.dead]) h.length (h.length + 1) u tx = h ++ [bw 74 h.length (h.length + 1) u tx, AB.grow 5 1 tx.size] := by
  simp [HS, hs2]
theorem QbK (h L : AH) (tx : ByteArray) (h0 : 0 < tx.size) (hs : tx.size ≤ 140737488355328) : XG Tryz.prog 41 [.ptr h.length 0 0] (HS (h ++ [AB.dead, AB.dead]) h.length (h.length + 1) true tx ++ L)
    fun o h' => o = .ret (.v (.string tx)) ∧ h' = h ++ ([bw 74 h.length (h.length + 1) true tx, AB.gone] ++ L) := by
  have c := (QaX (ty := 74) (i := h.length) (j := h.length + 1) (by omega) tx h0 hs).app (h := h ++ [AB.dead, AB.dead]) (by simp) (by simp) L
  rw [← HS] at c
  have e : hs2 (h ++ [AB.dead, AB.dead]) h.length (bw 74 h.length (h.length + 1) true tx) (h.length + 1) .gone = h ++ [bw 74 h.length (h.length + 1) true tx, AB.gone] := by
    simp [hs2]
  rw [e, List.append_assoc] at c
  exact c
section
variable {X : Type} (f : X → AV) (tx : X → ByteArray) (fv : AV)
theorem QfZ (h : AH) : XG Tryz.prog 36 [.sl 2 [] none, fv] h fun o h' => o = .ret (.v (.string .empty)) ∧ h' = h := by
  have c := Qai (ty := 74) (i := h.length) (h ++ [AB.dead]) (by simp)
  have e : hs (h ++ [AB.dead]) h.length (bw00 74) = h ++ [bw00 74] := by simp [hs]
  rw [e, bw00] at c
  refine Qg Tryz.func36 rfl Tryz.call36 Tryz.ntmps36 (congrArg Array.toList Tryz.results36) (by simp) ?_
  iterate 8 (try (first | (((with_reducible refine Qa fun K E hK hE => ?_)); simp -implicitDefEqProofs only [Qf, Qb, Qi, OpW, aop, undef, AS.ev, Qc, Qq, QM, Qm, QC, List.getD_cons_zero, AV.Qj3, Qr, List.all_cons, List.all_nil, QN, Q9, Bool.and_self, ↓reduceIte, List.length_cons, List.length_nil, Nat.reduceAdd, Nat.reduceLT, Nat.reduceEqDiff, Nat.zero_add, aLen, Option.map_some, goInt, Int.natCast_zero, un22, zi74]) | (with_reducible (first | refine Qh fun K hK => ?_ | refine Qk ?_)) | ((with_reducible refine hK _ ?_); clear hK)))
  obtain ⟨I, hI⟩ : ∃ I : Nat → AS → Prop, I = fun m' s => m' = 0 ∧ s.tm 1 = fv ∧ s.tm 5 = .ptr h.length 0 0 ∧ s.tm 8 = .sl 2 [] none ∧ s.tm 9 = .i 0 ∧ s.tm 10 = .i 0 ∧ s.h = h ++ [.cells 74 2 [.agg [.v (.pointer none), .v (.slice none 0 0)]]] := ⟨_, rfl⟩; refine Q4 I ?_ (m := 0) ?_
  · intro m' s hs; rw [hI] at hs; obtain ⟨tm, hp⟩ := s; dsimp only at hs; obtain ⟨rfl, t1, t5, t8, t9, t10, rfl⟩ := hs
    have z : ¬ ((0 : Int) < 0) := by decide
    repeat (first | ((first | (with_reducible (first | refine Qa fun K E hK hE => ?_ | refine FunW.ret (FunW.call c) ?_))); simp -implicitDefEqProofs only [Qf, Qb, Qi, OpW, QW, aop, AS.ev, Qc, Qm, ↓reduceIte, Nat.reduceLT, Nat.reduceEqDiff, aBin, Option.map_some, List.map_cons, List.map_nil, QY, decide_false, t5, t9, t10, z]) | (with_reducible (first | refine Qh fun K hK => ?_ | refine Qo ?_ | refine Q1 ?_ | refine Qe ?_ | refine QS ?_ | refine QR ?_)) | ((with_reducible refine hK _ ?_); clear hK) | (clear hK; (with_reducible refine hK _ ?_); clear hK) | (refine Qj rfl ?_; simp only [↓reduceIte, Bool.false_eq_true]))
    simp only [QO, Qp, Qv, upd, ↓reduceIte, Option.some.injEq, exists_eq_left']; first | refine Qd (htake _ _) (.keep (.v _)) ⟨rfl, rfl⟩ | refine Qd List.take_length (.keep (.v _)) ⟨rfl, rfl⟩
  · rw [hI]
    exact ⟨rfl, rfl, rfl, rfl, rfl, rfl, rfl⟩
theorem QeL (hfc : ∀ x, (f x).isAgg = true ∧ (f x).cells.length = 2 ∧ (f x).cells.all AV.cell1 = true) (l : List X) (hl : 0 < l.length) (hl2 : l.length ≤ 1000000) (h : AH) (hG : Xu h)
    (ih : ∀ x ∈ l, ∀ h : AH, Xu h → FunW Tryz.prog fv [f x] h fun o h' => o = .ret (.v (.string (tx x))) ∧ h' = h)
    (h0 : 0 < (XP true (l.map tx)).size) (hs : (XP true (l.map tx)).size ≤ 140737488355328) :
    XG Tryz.prog 36 [.sl 2 (vs f l) none, fv] h fun o h' => o = .ret (.v (.string (XP true (l.map tx)))) ∧ h' = h := by
  have hi : h.length < (h ++ [AB.dead, AB.dead]).length := by simp
  have hj : h.length + 1 < (h ++ [AB.dead, AB.dead]).length := by simp
  have hle : (h ++ [AB.dead, AB.dead]).length = h.length + 2 := by simp
  have f1 := fun u tx => (Qgs (h ++ [AB.dead, AB.dead]) h.length (h.length + 1) u tx).trans hle
  have f3 : ∀ u tx L k, (HS (h ++ [AB.dead, AB.dead]) h.length (h.length + 1) u tx ++ L)[h.length + 2 + k]? = L[k]? := fun u tx L k => by rw [← hle]; exact Qgp _ _ _ u tx L k
  have f2 : ∀ u tx L, (HS (h ++ [AB.dead, AB.dead]) h.length (h.length + 1) u tx ++ L)[h.length + 2]? = L[0]? := fun u tx L => f3 u tx L 0
  have f5 : ∀ u tx z L k, (HS (h ++ [AB.dead, AB.dead]) h.length (h.length + 1) u tx ++ L).set (h.length + 2 + k) z = HS (h ++ [AB.dead, AB.dead]) h.length (h.length + 1) u tx ++ L.set k z := fun u tx z L k => by rw [← hle]; exact QdX _ _ _ u tx z L k
  have f4 : ∀ u tx z L, (HS (h ++ [AB.dead, AB.dead]) h.length (h.length + 1) u tx ++ L).set (h.length + 2) z = HS (h ++ [AB.dead, AB.dead]) h.length (h.length + 1) u tx ++ L.set 0 z := fun u tx z L => f5 u tx z L 0
  have f6 := fun u tx L => QdJ (h := h ++ [AB.dead, AB.dead]) (i := h.length) (j := h.length + 1) hi (by omega) u tx L
  have gapp := fun u tx L => Qgi (h := h ++ [AB.dead, AB.dead]) (i := h.length) (j := h.length + 1) hi hj u tx L
  refine Qg Tryz.func36 rfl Tryz.call36 Tryz.ntmps36 (congrArg Array.toList Tryz.results36) (by simp) ?_
  iterate 8 (try (first | (((with_reducible refine Qa fun K E hK hE => ?_)); simp -implicitDefEqProofs only [Qf, Qb, Qi, OpW, aop, undef, AS.ev, Qc, Qq, QM, Qm, QC, List.getD_cons_zero, AV.Qj3, Qr, List.all_cons, List.all_nil, QN, Q9, Bool.and_self, ↓reduceIte, List.length_cons, List.length_nil, Nat.reduceAdd, Nat.reduceLT, Nat.reduceEqDiff, Nat.zero_add, aLen, Option.map_some, goInt, un22, zi74, QF]) | (with_reducible (first | refine Qh fun K hK => ?_ | refine Qk ?_)) | ((with_reducible refine hK _ ?_); clear hK)))
  refine Zx h.length 74 5 (.pointer none) (by simp) ?_
  obtain ⟨I, hI⟩ : ∃ I : Nat → AS → Prop, I = fun m' s => ∃ (k : Nat) (cur : ByteArray), m' = l.length - k ∧ k ≤ l.length ∧ cur ++ XP (decide (k = 0)) ((l.drop k).map tx) = XP true (l.map tx) ∧ s.tm 1 = fv ∧ s.tm 5 = .ptr h.length 0 0 ∧ s.tm 8 = .sl 2 (vs f l) none ∧ s.tm 9 = .i l.length ∧ s.tm 10 = .i k ∧ (∃ L, s.h = HS (h ++ [AB.dead, AB.dead]) h.length (h.length + 1) (decide (0 < k)) cur ++ L) := ⟨_, rfl⟩; refine Q4 I ?_ (m := l.length) ?_
  · intro m' s hs; rw [hI] at hs; obtain ⟨tm, hp⟩ := s; dsimp only at hs; obtain ⟨k, cur, rfl, hk, he, t1, t5, t8, t9, t10, L, rfl⟩ := hs
    by_cases hlt : k < l.length
    · have hg := YG f hlt
      have z1 : (k : Int) < l.length := by omega
      obtain ⟨hag, hcl, hc1⟩ := hfc l[k]
      have hsz : cur.size + (XP (decide (k = 0)) ((l.drop k).map tx)).size = (XP true (l.map tx)).size := by rw [← Qu, he]
      have hd : (l.drop k).map tx = tx (l[k]) :: (l.drop (k + 1)).map tx := by rw [List.drop_eq_getElem_cons hlt]; rfl
      have hcm : Y0.size = 2 := rfl
      rw [hd, XP, Qu] at hsz
      rw [hd, XP] at he
      have glen : ∀ L : AH, h.length < (h ++ [AB.dead, AB.dead] ++ L).length ∧ h.length + 1 < (h ++ [AB.dead, AB.dead] ++ L).length := fun L => by rw [List.length_append]; omega
      have hG' := fun u tx L => HasG.app (QeK hG [AB.dead, AB.dead] rfl u tx) L
      by_cases hk0 : k = 0
      · rw [decide_eq_true hk0, if_pos rfl] at hsz he
        have z2 : ¬ (k : Int) > 0 := by omega
        have c2 := ih l[k] (List.getElem_mem hlt) (HS (h ++ [AB.dead, AB.dead]) h.length (h.length + 1) (decide (0 < k)) cur ++ (L ++ [AB.cells 66 2 [f l[k]]])) (hG' _ _ _)
        have c1 := sstr (h := h ++ [AB.dead, AB.dead] ++ (L ++ [AB.cells 66 2 [f l[k]]])) (glen _).1 (glen _).2 (by omega) (decide (0 < k)) cur (tx (l[k])) (by omega)
        rw [gapp, gapp] at c1
        repeat (first | ((first | (with_reducible (first | refine Qa fun K E hK hE => ?_ | refine Qn fun K E hK hE => ?_ | refine FunW.ret c2 ?_ | refine FunW.ret (FunW.call c1) ?_))); simp -implicitDefEqProofs only [Qf, Qb, Qi, OpW, QW, aop, undef, AS.ev, Qc, QV, Qq, Qm, AV.Qj3, Qr, QD, List.all_cons, List.all_nil, Qw, QN, Bool.and_self, ↓reduceIte, List.length_cons, List.length_nil, Nat.reduceAdd, Nat.reduceLT, Nat.reduceEqDiff, Nat.zero_add, and_self, QI, QJ, Xb, QZ, QL, aBin, QX, X0, hlen, happ, List.getElem?_cons_zero, List.set_cons_zero, Option.map_some, List.map_cons, List.map_nil, QY, Q6, Xj, decide_true, decide_false, Int.toNat_natCast, Int.natCast_nonneg, ei22, ti66, zi66, t1, t5, t8, t9, t10, z1, z2, hg, hcl, hag, hc1, f1, f3, f5, QF]) | (with_reducible (first | refine Qh fun K hK => ?_ | refine Qk ?_ | refine Qt ?_ | refine Qe ?_ | refine Qs ?_)) | ((with_reducible refine hK _ ?_); clear hK) | (refine Qj rfl ?_; simp only [↓reduceIte, Bool.false_eq_true]))
        refine XE.mk (m' := l.length - (k + 1)) (by omega) ?_
        rw [hI]
        refine ⟨k + 1, cur ++ tx (l[k]), rfl, hlt, ?_, t1, t5, t8, t9, ?_, _, rfl⟩
        · rw [decide_eq_false (Nat.succ_ne_zero k), ByteArray.append_assoc]; exact he
        · simp only [upd, ↓reduceIte]
          rw [Xf (by omega)]
      · rw [decide_eq_false hk0, if_neg (by decide), Qu] at hsz
        rw [decide_eq_false hk0, if_neg (by decide)] at he
        have z2 : (k : Int) > 0 := by omega
        have c0 := sstr (h := h ++ [AB.dead, AB.dead] ++ (L ++ [AB.cells 66 2 [f l[k]]])) (glen _).1 (glen _).2 (by omega) (decide (0 < k)) cur Y0 (by omega)
        rw [gapp, gapp] at c0
        have c2 := ih l[k] (List.getElem_mem hlt) (HS (h ++ [AB.dead, AB.dead]) h.length (h.length + 1) true (cur ++ Y0) ++ (L ++ [AB.cells 66 2 [f l[k]]])) (hG' _ _ _)
        have c1 := sstr (h := h ++ [AB.dead, AB.dead] ++ (L ++ [AB.cells 66 2 [f l[k]]])) (glen _).1 (glen _).2 (by omega) true (cur ++ Y0) (tx (l[k])) (by rw [Qu]; omega)
        rw [gapp, gapp] at c1
        repeat (first | ((first | (with_reducible (first | refine Qa fun K E hK hE => ?_ | refine Qn fun K E hK hE => ?_ | refine FunW.ret c2 ?_ | refine FunW.ret (FunW.call c1) ?_ | refine FunW.ret (FunW.call c0) ?_))); simp -implicitDefEqProofs only [Qf, Qb, Qi, OpW, QW, aop, undef, AS.ev, Qc, QV, Qq, QM, Qm, AV.Qj3, Qr, QD, List.all_cons, List.all_nil, Qw, QN, Bool.and_self, ↓reduceIte, List.length_cons, List.length_nil, Nat.reduceAdd, Nat.reduceLT, Nat.reduceEqDiff, Nat.zero_add, and_self, QI, QJ, Xb, QZ, QL, aBin, QX, X0, hlen, happ, List.getElem?_cons_zero, List.set_cons_zero, Option.map_some, List.map_cons, List.map_nil, QY, Q6, Xj, decide_true, Int.toNat_natCast, Int.natCast_nonneg, ei22, ti66, zi66, t1, t5, t8, t9, t10, z1, z2, hg, hcl, hag, hc1, f1, f3, f5, QF]) | (with_reducible (first | refine Qh fun K hK => ?_ | refine Qk ?_ | refine Qt ?_ | refine Qe ?_ | refine Qs ?_)) | ((with_reducible refine hK _ ?_); clear hK) | (refine Qj rfl ?_; simp only [↓reduceIte]))
        refine XE.mk (m' := l.length - (k + 1)) (by omega) ?_
        rw [hI]
        refine ⟨k + 1, (cur ++ Y0) ++ tx (l[k]), rfl, hlt, ?_, t1, t5, t8, t9, ?_, _, rfl⟩
        · rw [decide_eq_false (Nat.succ_ne_zero k)]; simp only [ByteArray.append_assoc] at he ⊢; exact he
        · simp only [upd, ↓reduceIte]
          rw [Xf (by omega)]
    · have hkn : k = l.length := by omega
      subst hkn
      have z1 : ¬ ((l.length : Nat) : Int) < l.length := by omega
      rw [List.drop_length, List.map_nil, XP, ByteArray.append_empty] at he
      rw [decide_eq_true hl]
      rw [← he] at h0 hs
      have c := QbK h L cur h0 hs
      repeat (first | ((first | (with_reducible (first | refine Qa fun K E hK hE => ?_ | refine FunW.ret (FunW.call c) ?_))); simp -implicitDefEqProofs only [Qf, Qb, Qi, OpW, QW, aop, AS.ev, Qc, Qm, ↓reduceIte, Nat.reduceLT, Nat.reduceEqDiff, aBin, Option.map_some, List.map_cons, List.map_nil, List.cons_append, List.nil_append, QY, decide_false, t5, t9, t10, z1]) | (with_reducible (first | refine Qh fun K hK => ?_ | refine Qo ?_ | refine Q1 ?_ | refine Qe ?_ | refine QS ?_ | refine QR ?_)) | ((with_reducible refine hK _ ?_); clear hK) | (clear hK; (with_reducible refine hK _ ?_); clear hK) | (refine Qj rfl ?_; simp only [↓reduceIte, Bool.false_eq_true]))
      simp only [QO, Qp, Qv, upd, ↓reduceIte, Option.some.injEq, exists_eq_left']; first | refine Qd (htake _ _) (.keep (.v _)) ⟨by rw [he], rfl⟩ | refine Qd List.take_length (.keep (.v _)) ⟨by rw [he], rfl⟩
  · rw [hI]
    refine ⟨0, .empty, rfl, by omega, by rw [ByteArray.empty_append]; rfl, rfl, rfl, rfl, rfl, rfl, [], ?_⟩
    rw [QhQ]
    simp [bw]; rfl
end
section
variable {X : Type} (f : X → AV) (tx : X → ByteArray) (fv : AV)
theorem Qf9 (h : AH) : XG Tryz.prog 38 [.sl 3 [] none, fv] h fun o h' => o = .ret (.v (.string .empty)) ∧ h' = h := by
  have c := Qai (ty := 74) (i := h.length) (h ++ [AB.dead]) (by simp)
  have e : hs (h ++ [AB.dead]) h.length (bw00 74) = h ++ [bw00 74] := by simp [hs]
  rw [e, bw00] at c
  refine Qg Tryz.func38 rfl Tryz.call38 Tryz.ntmps38 (congrArg Array.toList Tryz.results38) (by simp) ?_
  iterate 8 (try (first | (((with_reducible refine Qa fun K E hK hE => ?_)); simp -implicitDefEqProofs only [Qf, Qb, Qi, OpW, aop, undef, AS.ev, Qc, Qq, QM, Qm, QC, List.getD_cons_zero, AV.Qj3, Qr, List.all_cons, List.all_nil, QN, Q9, Bool.and_self, ↓reduceIte, List.length_cons, List.length_nil, Nat.reduceAdd, Nat.reduceLT, Nat.reduceEqDiff, Nat.zero_add, aLen, Option.map_some, goInt, Int.natCast_zero, un23, zi74]) | (with_reducible (first | refine Qh fun K hK => ?_ | refine Qk ?_)) | ((with_reducible refine hK _ ?_); clear hK)))
  obtain ⟨I, hI⟩ : ∃ I : Nat → AS → Prop, I = fun m' s => m' = 0 ∧ s.tm 1 = fv ∧ s.tm 5 = .ptr h.length 0 0 ∧ s.tm 8 = .sl 3 [] none ∧ s.tm 9 = .i 0 ∧ s.tm 10 = .i 0 ∧ s.h = h ++ [.cells 74 2 [.agg [.v (.pointer none), .v (.slice none 0 0)]]] := ⟨_, rfl⟩; refine Q4 I ?_ (m := 0) ?_
  · intro m' s hs; rw [hI] at hs; obtain ⟨tm, hp⟩ := s; dsimp only at hs; obtain ⟨rfl, t1, t5, t8, t9, t10, rfl⟩ := hs
    have z : ¬ ((0 : Int) < 0) := by decide
    repeat (first | ((first | (with_reducible (first | refine Qa fun K E hK hE => ?_ | refine FunW.ret (FunW.call c) ?_))); simp -implicitDefEqProofs only [Qf, Qb, Qi, OpW, QW, aop, AS.ev, Qc, Qm, ↓reduceIte, Nat.reduceLT, Nat.reduceEqDiff, aBin, Option.map_some, List.map_cons, List.map_nil, QY, decide_false, t5, t9, t10, z]) | (with_reducible (first | refine Qh fun K hK => ?_ | refine Qo ?_ | refine Q1 ?_ | refine Qe ?_ | refine QS ?_ | refine QR ?_)) | ((with_reducible refine hK _ ?_); clear hK) | (clear hK; (with_reducible refine hK _ ?_); clear hK) | (refine Qj rfl ?_; simp only [↓reduceIte, Bool.false_eq_true]))
    simp only [QO, Qp, Qv, upd, ↓reduceIte, Option.some.injEq, exists_eq_left']; first | refine Qd (htake _ _) (.keep (.v _)) ⟨rfl, rfl⟩ | refine Qd List.take_length (.keep (.v _)) ⟨rfl, rfl⟩
  · rw [hI]
    exact ⟨rfl, rfl, rfl, rfl, rfl, rfl, rfl⟩
theorem Qfr (hfc : ∀ x, (f x).isAgg = true ∧ (f x).cells.length = 3 ∧ (f x).cells.all AV.cell1 = true) (l : List X) (hl : 0 < l.length) (hl2 : l.length ≤ 1000000) (h : AH) (hG : Xu h)
    (ih : ∀ x ∈ l, ∀ h : AH, Xu h → FunW Tryz.prog fv [f x] h fun o h' => o = .ret (.v (.string (tx x))) ∧ h' = h)
    (h0 : 0 < (XP true (l.map tx)).size) (hs : (XP true (l.map tx)).size ≤ 140737488355328) :
    XG Tryz.prog 38 [.sl 3 (vs f l) none, fv] h fun o h' => o = .ret (.v (.string (XP true (l.map tx)))) ∧ h' = h := by
  have hi : h.length < (h ++ [AB.dead, AB.dead]).length := by simp
  have hj : h.length + 1 < (h ++ [AB.dead, AB.dead]).length := by simp
  have hle : (h ++ [AB.dead, AB.dead]).length = h.length + 2 := by simp
  have f1 := fun u tx => (Qgs (h ++ [AB.dead, AB.dead]) h.length (h.length + 1) u tx).trans hle
  have f3 : ∀ u tx L k, (HS (h ++ [AB.dead, AB.dead]) h.length (h.length + 1) u tx ++ L)[h.length + 2 + k]? = L[k]? := fun u tx L k => by rw [← hle]; exact Qgp _ _ _ u tx L k
  have f2 : ∀ u tx L, (HS (h ++ [AB.dead, AB.dead]) h.length (h.length + 1) u tx ++ L)[h.length + 2]? = L[0]? := fun u tx L => f3 u tx L 0
  have f5 : ∀ u tx z L k, (HS (h ++ [AB.dead, AB.dead]) h.length (h.length + 1) u tx ++ L).set (h.length + 2 + k) z = HS (h ++ [AB.dead, AB.dead]) h.length (h.length + 1) u tx ++ L.set k z := fun u tx z L k => by rw [← hle]; exact QdX _ _ _ u tx z L k
  have f4 : ∀ u tx z L, (HS (h ++ [AB.dead, AB.dead]) h.length (h.length + 1) u tx ++ L).set (h.length + 2) z = HS (h ++ [AB.dead, AB.dead]) h.length (h.length + 1) u tx ++ L.set 0 z := fun u tx z L => f5 u tx z L 0
  have f6 := fun u tx L => QdJ (h := h ++ [AB.dead, AB.dead]) (i := h.length) (j := h.length + 1) hi (by omega) u tx L
  have gapp := fun u tx L => Qgi (h := h ++ [AB.dead, AB.dead]) (i := h.length) (j := h.length + 1) hi hj u tx L
  refine Qg Tryz.func38 rfl Tryz.call38 Tryz.ntmps38 (congrArg Array.toList Tryz.results38) (by simp) ?_
  iterate 8 (try (first | (((with_reducible refine Qa fun K E hK hE => ?_)); simp -implicitDefEqProofs only [Qf, Qb, Qi, OpW, aop, undef, AS.ev, Qc, Qq, QM, Qm, QC, List.getD_cons_zero, AV.Qj3, Qr, List.all_cons, List.all_nil, QN, Q9, Bool.and_self, ↓reduceIte, List.length_cons, List.length_nil, Nat.reduceAdd, Nat.reduceLT, Nat.reduceEqDiff, Nat.zero_add, aLen, Option.map_some, goInt, un23, zi74, QF]) | (with_reducible (first | refine Qh fun K hK => ?_ | refine Qk ?_)) | ((with_reducible refine hK _ ?_); clear hK)))
  refine Zx h.length 74 5 (.pointer none) (by simp) ?_
  obtain ⟨I, hI⟩ : ∃ I : Nat → AS → Prop, I = fun m' s => ∃ (k : Nat) (cur : ByteArray), m' = l.length - k ∧ k ≤ l.length ∧ cur ++ XP (decide (k = 0)) ((l.drop k).map tx) = XP true (l.map tx) ∧ s.tm 1 = fv ∧ s.tm 5 = .ptr h.length 0 0 ∧ s.tm 8 = .sl 3 (vs f l) none ∧ s.tm 9 = .i l.length ∧ s.tm 10 = .i k ∧ (∃ L, s.h = HS (h ++ [AB.dead, AB.dead]) h.length (h.length + 1) (decide (0 < k)) cur ++ L) := ⟨_, rfl⟩; refine Q4 I ?_ (m := l.length) ?_
  · intro m' s hs; rw [hI] at hs; obtain ⟨tm, hp⟩ := s; dsimp only at hs; obtain ⟨k, cur, rfl, hk, he, t1, t5, t8, t9, t10, L, rfl⟩ := hs
    by_cases hlt : k < l.length
    · have hg := YG f hlt
      have z1 : (k : Int) < l.length := by omega
      obtain ⟨hag, hcl, hc1⟩ := hfc l[k]
      have hsz : cur.size + (XP (decide (k = 0)) ((l.drop k).map tx)).size = (XP true (l.map tx)).size := by rw [← Qu, he]
      have hd : (l.drop k).map tx = tx (l[k]) :: (l.drop (k + 1)).map tx := by rw [List.drop_eq_getElem_cons hlt]; rfl
      have hcm : Y0.size = 2 := rfl
      rw [hd, XP, Qu] at hsz
      rw [hd, XP] at he
      have glen : ∀ L : AH, h.length < (h ++ [AB.dead, AB.dead] ++ L).length ∧ h.length + 1 < (h ++ [AB.dead, AB.dead] ++ L).length := fun L => by rw [List.length_append]; omega
      have hG' := fun u tx L => HasG.app (QeK hG [AB.dead, AB.dead] rfl u tx) L
      by_cases hk0 : k = 0
      · rw [decide_eq_true hk0, if_pos rfl] at hsz he
        have z2 : ¬ (k : Int) > 0 := by omega
        have c2 := ih l[k] (List.getElem_mem hlt) (HS (h ++ [AB.dead, AB.dead]) h.length (h.length + 1) (decide (0 < k)) cur ++ (L ++ [AB.cells 53 3 [f l[k]]])) (hG' _ _ _)
        have c1 := sstr (h := h ++ [AB.dead, AB.dead] ++ (L ++ [AB.cells 53 3 [f l[k]]])) (glen _).1 (glen _).2 (by omega) (decide (0 < k)) cur (tx (l[k])) (by omega)
        rw [gapp, gapp] at c1
        repeat (first | ((first | (with_reducible (first | refine Qa fun K E hK hE => ?_ | refine Qn fun K E hK hE => ?_ | refine FunW.ret c2 ?_ | refine FunW.ret (FunW.call c1) ?_))); simp -implicitDefEqProofs only [Qf, Qb, Qi, OpW, QW, aop, undef, AS.ev, Qc, QV, Qq, Qm, AV.Qj3, Qr, QD, List.all_cons, List.all_nil, QB, Qw, QN, Bool.and_self, ↓reduceIte, List.length_cons, List.length_nil, Nat.reduceAdd, Nat.reduceLT, Nat.reduceEqDiff, Nat.zero_add, and_self, QI, QJ, Xb, QZ, QL, aBin, QX, X0, hlen, happ, List.getElem?_cons_zero, List.set_cons_zero, Option.map_some, List.map_cons, List.map_nil, QY, Q6, Xj, decide_true, decide_false, Int.toNat_natCast, Int.natCast_nonneg, ei23, ti53, zi53, t1, t5, t8, t9, t10, z1, z2, hg, hcl, hag, hc1, f1, f3, f5, QF]) | (with_reducible (first | refine Qh fun K hK => ?_ | refine Qk ?_ | refine Qt ?_ | refine Qe ?_ | refine Qs ?_)) | ((with_reducible refine hK _ ?_); clear hK) | (refine Qj rfl ?_; simp only [↓reduceIte, Bool.false_eq_true]))
        refine XE.mk (m' := l.length - (k + 1)) (by omega) ?_
        rw [hI]
        refine ⟨k + 1, cur ++ tx (l[k]), rfl, hlt, ?_, t1, t5, t8, t9, ?_, _, rfl⟩
        · rw [decide_eq_false (Nat.succ_ne_zero k), ByteArray.append_assoc]; exact he
        · simp only [upd, ↓reduceIte]
          rw [Xf (by omega)]
      · rw [decide_eq_false hk0, if_neg (by decide), Qu] at hsz
        rw [decide_eq_false hk0, if_neg (by decide)] at he
        have z2 : (k : Int) > 0 := by omega
        have c0 := sstr (h := h ++ [AB.dead, AB.dead] ++ (L ++ [AB.cells 53 3 [f l[k]]])) (glen _).1 (glen _).2 (by omega) (decide (0 < k)) cur Y0 (by omega)
        rw [gapp, gapp] at c0
        have c2 := ih l[k] (List.getElem_mem hlt) (HS (h ++ [AB.dead, AB.dead]) h.length (h.length + 1) true (cur ++ Y0) ++ (L ++ [AB.cells 53 3 [f l[k]]])) (hG' _ _ _)
        have c1 := sstr (h := h ++ [AB.dead, AB.dead] ++ (L ++ [AB.cells 53 3 [f l[k]]])) (glen _).1 (glen _).2 (by omega) true (cur ++ Y0) (tx (l[k])) (by rw [Qu]; omega)
        rw [gapp, gapp] at c1
        repeat (first | ((first | (with_reducible (first | refine Qa fun K E hK hE => ?_ | refine Qn fun K E hK hE => ?_ | refine FunW.ret c2 ?_ | refine FunW.ret (FunW.call c1) ?_ | refine FunW.ret (FunW.call c0) ?_))); simp -implicitDefEqProofs only [Qf, Qb, Qi, OpW, QW, aop, undef, AS.ev, Qc, QV, Qq, QM, Qm, AV.Qj3, Qr, QD, List.all_cons, List.all_nil, QB, Qw, QN, Bool.and_self, ↓reduceIte, List.length_cons, List.length_nil, Nat.reduceAdd, Nat.reduceLT, Nat.reduceEqDiff, Nat.zero_add, and_self, QI, QJ, Xb, QZ, QL, aBin, QX, X0, hlen, happ, List.getElem?_cons_zero, List.set_cons_zero, Option.map_some, List.map_cons, List.map_nil, QY, Q6, Xj, decide_true, Int.toNat_natCast, Int.natCast_nonneg, ei23, ti53, zi53, t1, t5, t8, t9, t10, z1, z2, hg, hcl, hag, hc1, f1, f3, f5, QF]) | (with_reducible (first | refine Qh fun K hK => ?_ | refine Qk ?_ | refine Qt ?_ | refine Qe ?_ | refine Qs ?_)) | ((with_reducible refine hK _ ?_); clear hK) | (refine Qj rfl ?_; simp only [↓reduceIte]))
        refine XE.mk (m' := l.length - (k + 1)) (by omega) ?_
        rw [hI]
        refine ⟨k + 1, (cur ++ Y0) ++ tx (l[k]), rfl, hlt, ?_, t1, t5, t8, t9, ?_, _, rfl⟩
        · rw [decide_eq_false (Nat.succ_ne_zero k)]; simp only [ByteArray.append_assoc] at he ⊢; exact he
        · simp only [upd, ↓reduceIte]
          rw [Xf (by omega)]
    · have hkn : k = l.length := by omega
      subst hkn
      have z1 : ¬ ((l.length : Nat) : Int) < l.length := by omega
      rw [List.drop_length, List.map_nil, XP, ByteArray.append_empty] at he
      rw [decide_eq_true hl]
      rw [← he] at h0 hs
      have c := QbK h L cur h0 hs
      repeat (first | ((first | (with_reducible (first | refine Qa fun K E hK hE => ?_ | refine FunW.ret (FunW.call c) ?_))); simp -implicitDefEqProofs only [Qf, Qb, Qi, OpW, QW, aop, AS.ev, Qc, Qm, ↓reduceIte, Nat.reduceLT, Nat.reduceEqDiff, aBin, Option.map_some, List.map_cons, List.map_nil, List.cons_append, List.nil_append, QY, decide_false, t5, t9, t10, z1]) | (with_reducible (first | refine Qh fun K hK => ?_ | refine Qo ?_ | refine Q1 ?_ | refine Qe ?_ | refine QS ?_ | refine QR ?_)) | ((with_reducible refine hK _ ?_); clear hK) | (clear hK; (with_reducible refine hK _ ?_); clear hK) | (refine Qj rfl ?_; simp only [↓reduceIte, Bool.false_eq_true]))
      simp only [QO, Qp, Qv, upd, ↓reduceIte, Option.some.injEq, exists_eq_left']; first | refine Qd (htake _ _) (.keep (.v _)) ⟨by rw [he], rfl⟩ | refine Qd List.take_length (.keep (.v _)) ⟨by rw [he], rfl⟩
  · rw [hI]
    refine ⟨0, .empty, rfl, by omega, by rw [ByteArray.empty_append]; rfl, rfl, rfl, rfl, rfl, rfl, [], ?_⟩
    rw [QhQ]
    simp [bw]; rfl
end
section
variable {X : Type} (f : X → AV) (tx : X → ByteArray) (fv : AV)
theorem Qf8 (h : AH) : XG Tryz.prog 56 [.sl 2 [] none, fv] h fun o h' => o = .ret (.v (.string .empty)) ∧ h' = h := by
  have c := Qai (ty := 74) (i := h.length) (h ++ [AB.dead]) (by simp)
  have e : hs (h ++ [AB.dead]) h.length (bw00 74) = h ++ [bw00 74] := by simp [hs]
  rw [e, bw00] at c
  refine Qg Tryz.func56 rfl Tryz.call56 Tryz.ntmps56 (congrArg Array.toList Tryz.results56) (by simp) ?_
  iterate 8 (try (first | (((with_reducible refine Qa fun K E hK hE => ?_)); simp -implicitDefEqProofs only [Qf, Qb, Qi, OpW, aop, undef, AS.ev, Qc, Qq, QM, Qm, QC, List.getD_cons_zero, AV.Qj3, Qr, List.all_cons, List.all_nil, QN, Q9, Bool.and_self, ↓reduceIte, List.length_cons, List.length_nil, Nat.reduceAdd, Nat.reduceLT, Nat.reduceEqDiff, Nat.zero_add, aLen, Option.map_some, goInt, Int.natCast_zero, un33, zi74]) | (with_reducible (first | refine Qh fun K hK => ?_ | refine Qk ?_)) | ((with_reducible refine hK _ ?_); clear hK)))
  obtain ⟨I, hI⟩ : ∃ I : Nat → AS → Prop, I = fun m' s => m' = 0 ∧ s.tm 1 = fv ∧ s.tm 5 = .ptr h.length 0 0 ∧ s.tm 8 = .sl 2 [] none ∧ s.tm 9 = .i 0 ∧ s.tm 10 = .i 0 ∧ s.h = h ++ [.cells 74 2 [.agg [.v (.pointer none), .v (.slice none 0 0)]]] := ⟨_, rfl⟩; refine Q4 I ?_ (m := 0) ?_
  · intro m' s hs; rw [hI] at hs; obtain ⟨tm, hp⟩ := s; dsimp only at hs; obtain ⟨rfl, t1, t5, t8, t9, t10, rfl⟩ := hs
    have z : ¬ ((0 : Int) < 0) := by decide
    repeat (first | ((first | (with_reducible (first | refine Qa fun K E hK hE => ?_ | refine FunW.ret (FunW.call c) ?_))); simp -implicitDefEqProofs only [Qf, Qb, Qi, OpW, QW, aop, AS.ev, Qc, Qm, ↓reduceIte, Nat.reduceLT, Nat.reduceEqDiff, aBin, Option.map_some, List.map_cons, List.map_nil, QY, decide_false, t5, t9, t10, z]) | (with_reducible (first | refine Qh fun K hK => ?_ | refine Qo ?_ | refine Q1 ?_ | refine Qe ?_ | refine QS ?_ | refine QR ?_)) | ((with_reducible refine hK _ ?_); clear hK) | (clear hK; (with_reducible refine hK _ ?_); clear hK) | (refine Qj rfl ?_; simp only [↓reduceIte, Bool.false_eq_true]))
    simp only [QO, Qp, Qv, upd, ↓reduceIte, Option.some.injEq, exists_eq_left']; first | refine Qd (htake _ _) (.keep (.v _)) ⟨rfl, rfl⟩ | refine Qd List.take_length (.keep (.v _)) ⟨rfl, rfl⟩
  · rw [hI]
    exact ⟨rfl, rfl, rfl, rfl, rfl, rfl, rfl⟩
theorem Qew (hfc : ∀ x, (f x).isAgg = true ∧ (f x).cells.length = 2 ∧ (f x).cells.all AV.cell1 = true) (l : List X) (hl : 0 < l.length) (hl2 : l.length ≤ 1000000) (h : AH) (hG : Xu h)
    (ih : ∀ x ∈ l, ∀ h : AH, Xu h → FunW Tryz.prog fv [f x] h fun o h' => o = .ret (.v (.string (tx x))) ∧ h' = h)
    (h0 : 0 < (XP true (l.map tx)).size) (hs : (XP true (l.map tx)).size ≤ 140737488355328) :
    XG Tryz.prog 56 [.sl 2 (vs f l) none, fv] h fun o h' => o = .ret (.v (.string (XP true (l.map tx)))) ∧ h' = h := by
  have hi : h.length < (h ++ [AB.dead, AB.dead]).length := by simp
  have hj : h.length + 1 < (h ++ [AB.dead, AB.dead]).length := by simp
  have hle : (h ++ [AB.dead, AB.dead]).length = h.length + 2 := by simp
  have f1 := fun u tx => (Qgs (h ++ [AB.dead, AB.dead]) h.length (h.length + 1) u tx).trans hle
  have f3 : ∀ u tx L k, (HS (h ++ [AB.dead, AB.dead]) h.length (h.length + 1) u tx ++ L)[h.length + 2 + k]? = L[k]? := fun u tx L k => by rw [← hle]; exact Qgp _ _ _ u tx L k
  have f2 : ∀ u tx L, (HS (h ++ [AB.dead, AB.dead]) h.length (h.length + 1) u tx ++ L)[h.length + 2]? = L[0]? := fun u tx L => f3 u tx L 0
  have f5 : ∀ u tx z L k, (HS (h ++ [AB.dead, AB.dead]) h.length (h.length + 1) u tx ++ L).set (h.length + 2 + k) z = HS (h ++ [AB.dead, AB.dead]) h.length (h.length + 1) u tx ++ L.set k z := fun u tx z L k => by rw [← hle]; exact QdX _ _ _ u tx z L k
  have f4 : ∀ u tx z L, (HS (h ++ [AB.dead, AB.dead]) h.length (h.length + 1) u tx ++ L).set (h.length + 2) z = HS (h ++ [AB.dead, AB.dead]) h.length (h.length + 1) u tx ++ L.set 0 z := fun u tx z L => f5 u tx z L 0
  have f6 := fun u tx L => QdJ (h := h ++ [AB.dead, AB.dead]) (i := h.length) (j := h.length + 1) hi (by omega) u tx L
  have gapp := fun u tx L => Qgi (h := h ++ [AB.dead, AB.dead]) (i := h.length) (j := h.length + 1) hi hj u tx L
  refine Qg Tryz.func56 rfl Tryz.call56 Tryz.ntmps56 (congrArg Array.toList Tryz.results56) (by simp) ?_
  iterate 8 (try (first | (((with_reducible refine Qa fun K E hK hE => ?_)); simp -implicitDefEqProofs only [Qf, Qb, Qi, OpW, aop, undef, AS.ev, Qc, Qq, QM, Qm, QC, List.getD_cons_zero, AV.Qj3, Qr, List.all_cons, List.all_nil, QN, Q9, Bool.and_self, ↓reduceIte, List.length_cons, List.length_nil, Nat.reduceAdd, Nat.reduceLT, Nat.reduceEqDiff, Nat.zero_add, aLen, Option.map_some, goInt, un33, zi74, QF]) | (with_reducible (first | refine Qh fun K hK => ?_ | refine Qk ?_)) | ((with_reducible refine hK _ ?_); clear hK)))
  refine Zx h.length 74 5 (.pointer none) (by simp) ?_
  obtain ⟨I, hI⟩ : ∃ I : Nat → AS → Prop, I = fun m' s => ∃ (k : Nat) (cur : ByteArray), m' = l.length - k ∧ k ≤ l.length ∧ cur ++ XP (decide (k = 0)) ((l.drop k).map tx) = XP true (l.map tx) ∧ s.tm 1 = fv ∧ s.tm 5 = .ptr h.length 0 0 ∧ s.tm 8 = .sl 2 (vs f l) none ∧ s.tm 9 = .i l.length ∧ s.tm 10 = .i k ∧ (∃ L, s.h = HS (h ++ [AB.dead, AB.dead]) h.length (h.length + 1) (decide (0 < k)) cur ++ L) := ⟨_, rfl⟩; refine Q4 I ?_ (m := l.length) ?_
  · intro m' s hs; rw [hI] at hs; obtain ⟨tm, hp⟩ := s; dsimp only at hs; obtain ⟨k, cur, rfl, hk, he, t1, t5, t8, t9, t10, L, rfl⟩ := hs
    by_cases hlt : k < l.length
    · have hg := YG f hlt
      have z1 : (k : Int) < l.length := by omega
      obtain ⟨hag, hcl, hc1⟩ := hfc l[k]
      have hsz : cur.size + (XP (decide (k = 0)) ((l.drop k).map tx)).size = (XP true (l.map tx)).size := by rw [← Qu, he]
      have hd : (l.drop k).map tx = tx (l[k]) :: (l.drop (k + 1)).map tx := by rw [List.drop_eq_getElem_cons hlt]; rfl
      have hcm : Y0.size = 2 := rfl
      rw [hd, XP, Qu] at hsz
      rw [hd, XP] at he
      have glen : ∀ L : AH, h.length < (h ++ [AB.dead, AB.dead] ++ L).length ∧ h.length + 1 < (h ++ [AB.dead, AB.dead] ++ L).length := fun L => by rw [List.length_append]; omega
      have hG' := fun u tx L => HasG.app (QeK hG [AB.dead, AB.dead] rfl u tx) L
      by_cases hk0 : k = 0
      · rw [decide_eq_true hk0, if_pos rfl] at hsz he
        have z2 : ¬ (k : Int) > 0 := by omega
        have c2 := ih l[k] (List.getElem_mem hlt) (HS (h ++ [AB.dead, AB.dead]) h.length (h.length + 1) (decide (0 < k)) cur ++ (L ++ [AB.cells 38 2 [f l[k]]])) (hG' _ _ _)
        have c1 := sstr (h := h ++ [AB.dead, AB.dead] ++ (L ++ [AB.cells 38 2 [f l[k]]])) (glen _).1 (glen _).2 (by omega) (decide (0 < k)) cur (tx (l[k])) (by omega)
        rw [gapp, gapp] at c1
        repeat (first | ((first | (with_reducible (first | refine Qa fun K E hK hE => ?_ | refine Qn fun K E hK hE => ?_ | refine FunW.ret c2 ?_ | refine FunW.ret (FunW.call c1) ?_))); simp -implicitDefEqProofs only [Qf, Qb, Qi, OpW, QW, aop, undef, AS.ev, Qc, QV, Qq, Qm, AV.Qj3, Qr, QD, List.all_cons, List.all_nil, QB, Qw, Bool.and_self, ↓reduceIte, List.length_cons, List.length_nil, Nat.reduceAdd, Nat.reduceLT, Nat.reduceEqDiff, Nat.zero_add, and_self, QI, QJ, Xb, QZ, QL, aBin, QX, X0, hlen, happ, List.getElem?_cons_zero, List.set_cons_zero, Option.map_some, List.map_cons, List.map_nil, QY, Q6, Xj, decide_true, decide_false, Int.toNat_natCast, Int.natCast_nonneg, ei33, ti38, zi38, t1, t5, t8, t9, t10, z1, z2, hg, hcl, hag, hc1, f1, f3, f5, QF]) | (with_reducible (first | refine Qh fun K hK => ?_ | refine Qk ?_ | refine Qt ?_ | refine Qe ?_ | refine Qs ?_)) | ((with_reducible refine hK _ ?_); clear hK) | (refine Qj rfl ?_; simp only [↓reduceIte, Bool.false_eq_true]))
        refine XE.mk (m' := l.length - (k + 1)) (by omega) ?_
        rw [hI]
        refine ⟨k + 1, cur ++ tx (l[k]), rfl, hlt, ?_, t1, t5, t8, t9, ?_, _, rfl⟩
        · rw [decide_eq_false (Nat.succ_ne_zero k), ByteArray.append_assoc]; exact he
        · simp only [upd, ↓reduceIte]
          rw [Xf (by omega)]
      · rw [decide_eq_false hk0, if_neg (by decide), Qu] at hsz
        rw [decide_eq_false hk0, if_neg (by decide)] at he
        have z2 : (k : Int) > 0 := by omega
        have c0 := sstr (h := h ++ [AB.dead, AB.dead] ++ (L ++ [AB.cells 38 2 [f l[k]]])) (glen _).1 (glen _).2 (by omega) (decide (0 < k)) cur Y0 (by omega)
        rw [gapp, gapp] at c0
        have c2 := ih l[k] (List.getElem_mem hlt) (HS (h ++ [AB.dead, AB.dead]) h.length (h.length + 1) true (cur ++ Y0) ++ (L ++ [AB.cells 38 2 [f l[k]]])) (hG' _ _ _)
        have c1 := sstr (h := h ++ [AB.dead, AB.dead] ++ (L ++ [AB.cells 38 2 [f l[k]]])) (glen _).1 (glen _).2 (by omega) true (cur ++ Y0) (tx (l[k])) (by rw [Qu]; omega)
        rw [gapp, gapp] at c1
        repeat (first | ((first | (with_reducible (first | refine Qa fun K E hK hE => ?_ | refine Qn fun K E hK hE => ?_ | refine FunW.ret c2 ?_ | refine FunW.ret (FunW.call c1) ?_ | refine FunW.ret (FunW.call c0) ?_))); simp -implicitDefEqProofs only [Qf, Qb, Qi, OpW, QW, aop, undef, AS.ev, Qc, QV, Qq, QM, Qm, AV.Qj3, Qr, QD, List.all_cons, List.all_nil, QB, Qw, Bool.and_self, ↓reduceIte, List.length_cons, List.length_nil, Nat.reduceAdd, Nat.reduceLT, Nat.reduceEqDiff, Nat.zero_add, and_self, QI, QJ, Xb, QZ, QL, aBin, QX, X0, hlen, happ, List.getElem?_cons_zero, List.set_cons_zero, Option.map_some, List.map_cons, List.map_nil, QY, Q6, Xj, decide_true, Int.toNat_natCast, Int.natCast_nonneg, ei33, ti38, zi38, t1, t5, t8, t9, t10, z1, z2, hg, hcl, hag, hc1, f1, f3, f5, QF]) | (with_reducible (first | refine Qh fun K hK => ?_ | refine Qk ?_ | refine Qt ?_ | refine Qe ?_ | refine Qs ?_)) | ((with_reducible refine hK _ ?_); clear hK) | (refine Qj rfl ?_; simp only [↓reduceIte]))
        refine XE.mk (m' := l.length - (k + 1)) (by omega) ?_
        rw [hI]
        refine ⟨k + 1, (cur ++ Y0) ++ tx (l[k]), rfl, hlt, ?_, t1, t5, t8, t9, ?_, _, rfl⟩
        · rw [decide_eq_false (Nat.succ_ne_zero k)]; simp only [ByteArray.append_assoc] at he ⊢; exact he
        · simp only [upd, ↓reduceIte]
          rw [Xf (by omega)]
    · have hkn : k = l.length := by omega
      subst hkn
      have z1 : ¬ ((l.length : Nat) : Int) < l.length := by omega
      rw [List.drop_length, List.map_nil, XP, ByteArray.append_empty] at he
      rw [decide_eq_true hl]
      rw [← he] at h0 hs
      have c := QbK h L cur h0 hs
      repeat (first | ((first | (with_reducible (first | refine Qa fun K E hK hE => ?_ | refine FunW.ret (FunW.call c) ?_))); simp -implicitDefEqProofs only [Qf, Qb, Qi, OpW, QW, aop, AS.ev, Qc, Qm, ↓reduceIte, Nat.reduceLT, Nat.reduceEqDiff, aBin, Option.map_some, List.map_cons, List.map_nil, List.cons_append, List.nil_append, QY, decide_false, t5, t9, t10, z1]) | (with_reducible (first | refine Qh fun K hK => ?_ | refine Qo ?_ | refine Q1 ?_ | refine Qe ?_ | refine QS ?_ | refine QR ?_)) | ((with_reducible refine hK _ ?_); clear hK) | (clear hK; (with_reducible refine hK _ ?_); clear hK) | (refine Qj rfl ?_; simp only [↓reduceIte, Bool.false_eq_true]))
      simp only [QO, Qp, Qv, upd, ↓reduceIte, Option.some.injEq, exists_eq_left']; first | refine Qd (htake _ _) (.keep (.v _)) ⟨by rw [he], rfl⟩ | refine Qd List.take_length (.keep (.v _)) ⟨by rw [he], rfl⟩
  · rw [hI]
    refine ⟨0, .empty, rfl, by omega, by rw [ByteArray.empty_append]; rfl, rfl, rfl, rfl, rfl, rfl, [], ?_⟩
    rw [QhQ]
    simp [bw]; rfl
end
end Go.Proofs.YtenheconhibonaaGreatDoor.Ab
set_option linter.unusedSimpArgs false
set_option linter.unusedVariables false
set_option maxHeartbeats 4000000
set_option maxRecDepth 4000
namespace Go.Proofs.YtenheconhibonaaGreatDoor.Ab
open Go.Proofs
section
variable {X : Type} (f : X → AV) (p : X → Bool) (fv : AV)
theorem Qe9 (hfc : ∀ x, (f x).isAgg = true ∧ (f x).cells.length = 2 ∧ (f x).cells.all AV.cell1 = true) (l : List X) (hl2 : l.length ≤ 1000000) (h : AH)
    (ih : ∀ x ∈ l, ∀ h : AH, FunW Tryz.prog fv [f x] h fun o h' => o = .ret (.b (p x)) ∧ h' = h) :
    XG Tryz.prog 79 [.sl 2 (vs f l) none, fv] h fun o h' => o = .ret (.b (l.all p)) ∧ h' = h := by
  refine Qg Tryz.func79 rfl Tryz.call79 Tryz.ntmps79 (congrArg Array.toList Tryz.results79) (by simp) ?_
  repeat (first | (((with_reducible refine Qa fun K E hK hE => ?_)); simp -implicitDefEqProofs only [Qf, Qb, Qi, OpW, aop, undef, AS.ev, Qc, Qq, Qz, Qm, QC, List.getD_cons_zero, ↓reduceIte, Nat.reduceLT, Nat.reduceEqDiff, aLen, Option.map_some, goInt, un22, QF]) | (with_reducible (first | refine Qh fun K hK => ?_ | refine Qk ?_)) | ((with_reducible refine hK _ ?_); clear hK))
  obtain ⟨I, hI⟩ : ∃ I : Nat → AS → Prop, I = fun m' s => ∃ (k : Nat), m' = l.length - k ∧ k ≤ l.length ∧ l.all p = (l.drop k).all p ∧ s.tm 1 = fv ∧ s.tm 7 = .sl 2 (vs f l) none ∧ s.tm 8 = .i l.length ∧ s.tm 9 = .i k ∧ (∃ L, s.h = h ++ L) := ⟨_, rfl⟩; refine Q4 I ?_ (m := l.length) ?_
  · intro m' s hs; rw [hI] at hs; obtain ⟨tm, hp⟩ := s; dsimp only at hs; obtain ⟨k, rfl, hk, he, t1, t7, t8, t9, L, rfl⟩ := hs
    by_cases hlt : k < l.length
    · have hg := YG f hlt
      have z1 : (k : Int) < l.length := by omega
      obtain ⟨hag, hcl, hc1⟩ := hfc l[k]
      have c2 := ih l[k] (List.getElem_mem hlt) (h ++ (L ++ [AB.cells 66 2 [f l[k]]]))
      rw [List.drop_eq_getElem_cons hlt, List.all_cons] at he
      cases hp1 : p l[k] with
      | true =>
        rw [hp1] at c2 he
        repeat (first | ((first | (with_reducible (first | refine Qa fun K E hK hE => ?_ | refine Qn fun K E hK hE => ?_ | refine FunW.ret c2 ?_))); simp -implicitDefEqProofs only [Qf, Qb, Qi, OpW, QW, aop, undef, AS.ev, Qc, QV, Qq, Qm, AV.Qj3, Qr, QD, List.all_cons, List.all_nil, Qw, QN, Bool.and_self, Bool.not_true, ↓reduceIte, List.length_cons, List.length_nil, Nat.reduceAdd, Nat.reduceLT, Nat.reduceEqDiff, Nat.zero_add, and_self, QI, QJ, Xb, QZ, QL, aBin, QX, hget, X0, hset, hlen, happ, List.getElem?_cons_zero, List.set_cons_zero, Option.map_some, List.map_cons, List.map_nil, QY, Xj, XM, decide_true, Int.toNat_natCast, Int.natCast_nonneg, ei22, ti66, zi66, t1, t7, t8, t9, z1, hg, hcl, hag, hc1, QF]) | (with_reducible (first | refine Qh fun K hK => ?_ | refine Qk ?_ | refine Qt ?_ | refine Qe ?_ | refine Qs ?_)) | ((with_reducible refine hK _ ?_); clear hK) | (refine Qj rfl ?_; simp only [↓reduceIte, Bool.false_eq_true]))
        refine XE.mk (m' := l.length - (k + 1)) (by omega) ?_
        rw [hI]
        refine ⟨k + 1, rfl, hlt, by rw [he, Bool.true_and], t1, t7, t8, ?_, _, rfl⟩
        simp only [upd, ↓reduceIte]
        rw [Xf (by omega)]
      | false =>
        rw [hp1] at c2 he
        repeat (first | ((first | (with_reducible (first | refine Qa fun K E hK hE => ?_ | refine FunW.ret c2 ?_))); simp -implicitDefEqProofs only [Qf, Qb, Qi, OpW, QW, aop, undef, AS.ev, Qc, QV, Qz, Qm, AV.Qj3, Qr, QD, List.all_cons, List.all_nil, Qw, QN, Bool.and_self, Bool.not_false, ↓reduceIte, List.length_cons, List.length_nil, Nat.reduceAdd, Nat.reduceLT, Nat.reduceEqDiff, Nat.zero_add, and_self, QI, QJ, Xb, QZ, QL, aBin, QX, hget, X0, hset, hlen, happ, List.getElem?_cons_zero, List.set_cons_zero, Option.map_some, List.map_cons, List.map_nil, QY, XM, decide_true, Int.toNat_natCast, Int.natCast_nonneg, ei22, ti66, zi66, t1, t7, t8, t9, z1, hg, hcl, hag, hc1, QF]) | (with_reducible (first | refine Qh fun K hK => ?_ | refine Qk ?_ | refine Qo ?_ | refine Qt ?_ | refine Qe ?_ | refine QA ?_ | refine QE ?_)) | ((with_reducible refine hK _ ?_); clear hK) | (refine Qj rfl ?_; simp only [↓reduceIte]))
        simp only [QO, Qp, Qv, upd, ↓reduceIte, Option.some.injEq, exists_eq_left']; first | refine Qd (htake _ _) (.keep (.v _)) ⟨by rw [he, Bool.false_and], rfl⟩ | refine Qd List.take_length (.keep (.v _)) ⟨by rw [he, Bool.false_and], rfl⟩
    · have hkn : k = l.length := by omega
      subst hkn
      have z1 : ¬ ((l.length : Nat) : Int) < l.length := by omega
      rw [List.drop_length] at he
      repeat (first | (((with_reducible refine Qa fun K E hK hE => ?_)); simp -implicitDefEqProofs only [Qf, Qb, Qi, OpW, aop, AS.ev, Qc, Qz, Nat.reduceLT, aBin, Option.map_some, QY, decide_false, t8, t9, z1]) | (with_reducible (first | refine Qh fun K hK => ?_ | refine Qo ?_ | refine Q1 ?_ | refine Qe ?_ | refine QS ?_ | refine QR ?_)) | ((with_reducible refine hK _ ?_); clear hK) | (clear hK; (with_reducible refine hK _ ?_); clear hK) | (refine Qj rfl ?_; simp only [↓reduceIte, Bool.false_eq_true]))
      simp only [QO, Qp, Qv, upd, ↓reduceIte, Option.some.injEq, exists_eq_left']; first | refine Qd (htake _ _) (.keep (.v _)) ⟨by rw [he]; rfl, rfl⟩ | refine Qd List.take_length (.keep (.v _)) ⟨by rw [he]; rfl, rfl⟩
  · rw [hI]
    exact ⟨0, rfl, by omega, rfl, rfl, rfl, rfl, rfl, [], (List.append_nil _).symm⟩
end
section
variable {X : Type} (f : X → AV) (p : X → Bool) (fv : AV)
theorem QcC (hfc : ∀ x, (f x).isAgg = true ∧ (f x).cells.length = 3 ∧ (f x).cells.all AV.cell1 = true) (l : List X) (hl2 : l.length ≤ 1000000) (h : AH)
    (ih : ∀ x ∈ l, ∀ h : AH, FunW Tryz.prog fv [f x] h fun o h' => o = .ret (.b (p x)) ∧ h' = h) :
    XG Tryz.prog 60 [.sl 3 (vs f l) none, fv] h fun o h' => o = .ret (.b (l.all p)) ∧ h' = h := by
  refine Qg Tryz.func60 rfl Tryz.call60 Tryz.ntmps60 (congrArg Array.toList Tryz.results60) (by simp) ?_
  repeat (first | (((with_reducible refine Qa fun K E hK hE => ?_)); simp -implicitDefEqProofs only [Qf, Qb, Qi, OpW, aop, undef, AS.ev, Qc, Qq, Qz, Qm, QC, List.getD_cons_zero, ↓reduceIte, Nat.reduceLT, Nat.reduceEqDiff, aLen, Option.map_some, goInt, un23, QF]) | (with_reducible (first | refine Qh fun K hK => ?_ | refine Qk ?_)) | ((with_reducible refine hK _ ?_); clear hK))
  obtain ⟨I, hI⟩ : ∃ I : Nat → AS → Prop, I = fun m' s => ∃ (k : Nat), m' = l.length - k ∧ k ≤ l.length ∧ l.all p = (l.drop k).all p ∧ s.tm 1 = fv ∧ s.tm 7 = .sl 3 (vs f l) none ∧ s.tm 8 = .i l.length ∧ s.tm 9 = .i k ∧ (∃ L, s.h = h ++ L) := ⟨_, rfl⟩; refine Q4 I ?_ (m := l.length) ?_
  · intro m' s hs; rw [hI] at hs; obtain ⟨tm, hp⟩ := s; dsimp only at hs; obtain ⟨k, rfl, hk, he, t1, t7, t8, t9, L, rfl⟩ := hs
    by_cases hlt : k < l.length
    · have hg := YG f hlt
      have z1 : (k : Int) < l.length := by omega
      obtain ⟨hag, hcl, hc1⟩ := hfc l[k]
      have c2 := ih l[k] (List.getElem_mem hlt) (h ++ (L ++ [AB.cells 53 3 [f l[k]]]))
      rw [List.drop_eq_getElem_cons hlt, List.all_cons] at he
      cases hp1 : p l[k] with
      | true =>
        rw [hp1] at c2 he
        repeat (first | ((first | (with_reducible (first | refine Qa fun K E hK hE => ?_ | refine Qn fun K E hK hE => ?_ | refine FunW.ret c2 ?_))); simp -implicitDefEqProofs only [Qf, Qb, Qi, OpW, QW, aop, undef, AS.ev, Qc, QV, Qq, Qm, AV.Qj3, Qr, QD, List.all_cons, List.all_nil, QB, Qw, QN, Bool.and_self, Bool.not_true, ↓reduceIte, List.length_cons, List.length_nil, Nat.reduceAdd, Nat.reduceLT, Nat.reduceEqDiff, Nat.zero_add, and_self, QI, QJ, Xb, QZ, QL, aBin, QX, hget, X0, hset, hlen, happ, List.getElem?_cons_zero, List.set_cons_zero, Option.map_some, List.map_cons, List.map_nil, QY, Xj, XM, decide_true, Int.toNat_natCast, Int.natCast_nonneg, ei23, ti53, zi53, t1, t7, t8, t9, z1, hg, hcl, hag, hc1, QF]) | (with_reducible (first | refine Qh fun K hK => ?_ | refine Qk ?_ | refine Qt ?_ | refine Qe ?_ | refine Qs ?_)) | ((with_reducible refine hK _ ?_); clear hK) | (refine Qj rfl ?_; simp only [↓reduceIte, Bool.false_eq_true]))
        refine XE.mk (m' := l.length - (k + 1)) (by omega) ?_
        rw [hI]
        refine ⟨k + 1, rfl, hlt, by rw [he, Bool.true_and], t1, t7, t8, ?_, _, rfl⟩
        simp only [upd, ↓reduceIte]
        rw [Xf (by omega)]
      | false =>
        rw [hp1] at c2 he
        repeat (first | ((first | (with_reducible (first | refine Qa fun K E hK hE => ?_ | refine FunW.ret c2 ?_))); simp -implicitDefEqProofs only [Qf, Qb, Qi, OpW, QW, aop, undef, AS.ev, Qc, QV, Qz, Qm, AV.Qj3, Qr, QD, List.all_cons, List.all_nil, QB, Qw, QN, Bool.and_self, Bool.not_false, ↓reduceIte, List.length_cons, List.length_nil, Nat.reduceAdd, Nat.reduceLT, Nat.reduceEqDiff, Nat.zero_add, and_self, QI, QJ, Xb, QZ, QL, aBin, QX, hget, X0, hset, hlen, happ, List.getElem?_cons_zero, List.set_cons_zero, Option.map_some, List.map_cons, List.map_nil, QY, XM, decide_true, Int.toNat_natCast, Int.natCast_nonneg, ei23, ti53, zi53, t1, t7, t8, t9, z1, hg, hcl, hag, hc1, QF]) | (with_reducible (first | refine Qh fun K hK => ?_ | refine Qk ?_ | refine Qo ?_ | refine Qt ?_ | refine Qe ?_ | refine QA ?_ | refine QE ?_)) | ((with_reducible refine hK _ ?_); clear hK) | (refine Qj rfl ?_; simp only [↓reduceIte]))
        simp only [QO, Qp, Qv, upd, ↓reduceIte, Option.some.injEq, exists_eq_left']; first | refine Qd (htake _ _) (.keep (.v _)) ⟨by rw [he, Bool.false_and], rfl⟩ | refine Qd List.take_length (.keep (.v _)) ⟨by rw [he, Bool.false_and], rfl⟩
    · have hkn : k = l.length := by omega
      subst hkn
      have z1 : ¬ ((l.length : Nat) : Int) < l.length := by omega
      rw [List.drop_length] at he
      repeat (first | (((with_reducible refine Qa fun K E hK hE => ?_)); simp -implicitDefEqProofs only [Qf, Qb, Qi, OpW, aop, AS.ev, Qc, Qz, Nat.reduceLT, aBin, Option.map_some, QY, decide_false, t8, t9, z1]) | (with_reducible (first | refine Qh fun K hK => ?_ | refine Qo ?_ | refine Q1 ?_ | refine Qe ?_ | refine QS ?_ | refine QR ?_)) | ((with_reducible refine hK _ ?_); clear hK) | (clear hK; (with_reducible refine hK _ ?_); clear hK) | (refine Qj rfl ?_; simp only [↓reduceIte, Bool.false_eq_true]))
      simp only [QO, Qp, Qv, upd, ↓reduceIte, Option.some.injEq, exists_eq_left']; first | refine Qd (htake _ _) (.keep (.v _)) ⟨by rw [he]; rfl, rfl⟩ | refine Qd List.take_length (.keep (.v _)) ⟨by rw [he]; rfl, rfl⟩
  · rw [hI]
    exact ⟨0, rfl, by omega, rfl, rfl, rfl, rfl, rfl, [], (List.append_nil _).symm⟩
end
section
variable {X : Type} (f : X → AV) (p : X → Bool) (fv : AV)
theorem Qin (hfc : ∀ x, (f x).isAgg = true ∧ (f x).cells.length = 2 ∧ (f x).cells.all AV.cell1 = true) (l : List X) (hl2 : l.length ≤ 1000000) (h : AH)
    (ih : ∀ x ∈ l, ∀ h : AH, FunW Tryz.prog fv [f x] h fun o h' => o = .ret (.b (p x)) ∧ h' = h) :
    XG Tryz.prog 53 [.sl 2 (vs f l) none, fv] h fun o h' => o = .ret (.b (l.all p)) ∧ h' = h := by
  refine Qg Tryz.func53 rfl Tryz.call53 Tryz.ntmps53 (congrArg Array.toList Tryz.results53) (by simp) ?_
  repeat (first | (((with_reducible refine Qa fun K E hK hE => ?_)); simp -implicitDefEqProofs only [Qf, Qb, Qi, OpW, aop, undef, AS.ev, Qc, Qq, Qz, Qm, QC, List.getD_cons_zero, ↓reduceIte, Nat.reduceLT, Nat.reduceEqDiff, aLen, Option.map_some, goInt, un33, QF]) | (with_reducible (first | refine Qh fun K hK => ?_ | refine Qk ?_)) | ((with_reducible refine hK _ ?_); clear hK))
  obtain ⟨I, hI⟩ : ∃ I : Nat → AS → Prop, I = fun m' s => ∃ (k : Nat), m' = l.length - k ∧ k ≤ l.length ∧ l.all p = (l.drop k).all p ∧ s.tm 1 = fv ∧ s.tm 7 = .sl 2 (vs f l) none ∧ s.tm 8 = .i l.length ∧ s.tm 9 = .i k ∧ (∃ L, s.h = h ++ L) := ⟨_, rfl⟩; refine Q4 I ?_ (m := l.length) ?_
  · intro m' s hs; rw [hI] at hs; obtain ⟨tm, hp⟩ := s; dsimp only at hs; obtain ⟨k, rfl, hk, he, t1, t7, t8, t9, L, rfl⟩ := hs
    by_cases hlt : k < l.length
    · have hg := YG f hlt
      have z1 : (k : Int) < l.length := by omega
      obtain ⟨hag, hcl, hc1⟩ := hfc l[k]
      have c2 := ih l[k] (List.getElem_mem hlt) (h ++ (L ++ [AB.cells 38 2 [f l[k]]]))
      rw [List.drop_eq_getElem_cons hlt, List.all_cons] at he
      cases hp1 : p l[k] with
      | true =>
        rw [hp1] at c2 he
        repeat (first | ((first | (with_reducible (first | refine Qa fun K E hK hE => ?_ | refine Qn fun K E hK hE => ?_ | refine FunW.ret c2 ?_))); simp -implicitDefEqProofs only [Qf, Qb, Qi, OpW, QW, aop, undef, AS.ev, Qc, QV, Qq, Qm, AV.Qj3, Qr, QD, List.all_cons, List.all_nil, QB, Qw, Bool.and_self, Bool.not_true, ↓reduceIte, List.length_cons, List.length_nil, Nat.reduceAdd, Nat.reduceLT, Nat.reduceEqDiff, Nat.zero_add, and_self, QI, QJ, Xb, QZ, QL, aBin, QX, hget, X0, hset, hlen, happ, List.getElem?_cons_zero, List.set_cons_zero, Option.map_some, List.map_cons, List.map_nil, QY, Xj, XM, decide_true, Int.toNat_natCast, Int.natCast_nonneg, ei33, ti38, zi38, t1, t7, t8, t9, z1, hg, hcl, hag, hc1, QF]) | (with_reducible (first | refine Qh fun K hK => ?_ | refine Qk ?_ | refine Qt ?_ | refine Qe ?_ | refine Qs ?_)) | ((with_reducible refine hK _ ?_); clear hK) | (refine Qj rfl ?_; simp only [↓reduceIte, Bool.false_eq_true]))
        refine XE.mk (m' := l.length - (k + 1)) (by omega) ?_
        rw [hI]
        refine ⟨k + 1, rfl, hlt, by rw [he, Bool.true_and], t1, t7, t8, ?_, _, rfl⟩
        simp only [upd, ↓reduceIte]
        rw [Xf (by omega)]
      | false =>
        rw [hp1] at c2 he
        repeat (first | ((first | (with_reducible (first | refine Qa fun K E hK hE => ?_ | refine FunW.ret c2 ?_))); simp -implicitDefEqProofs only [Qf, Qb, Qi, OpW, QW, aop, undef, AS.ev, Qc, QV, Qz, Qm, AV.Qj3, Qr, QD, List.all_cons, List.all_nil, QB, Qw, Bool.and_self, Bool.not_false, ↓reduceIte, List.length_cons, List.length_nil, Nat.reduceAdd, Nat.reduceLT, Nat.reduceEqDiff, Nat.zero_add, and_self, QI, QJ, Xb, QZ, QL, aBin, QX, hget, X0, hset, hlen, happ, List.getElem?_cons_zero, List.set_cons_zero, Option.map_some, List.map_cons, List.map_nil, QY, XM, decide_true, Int.toNat_natCast, Int.natCast_nonneg, ei33, ti38, zi38, t1, t7, t8, t9, z1, hg, hcl, hag, hc1, QF]) | (with_reducible (first | refine Qh fun K hK => ?_ | refine Qk ?_ | refine Qo ?_ | refine Qt ?_ | refine Qe ?_ | refine QA ?_ | refine QE ?_)) | ((with_reducible refine hK _ ?_); clear hK) | (refine Qj rfl ?_; simp only [↓reduceIte]))
        simp only [QO, Qp, Qv, upd, ↓reduceIte, Option.some.injEq, exists_eq_left']; first | refine Qd (htake _ _) (.keep (.v _)) ⟨by rw [he, Bool.false_and], rfl⟩ | refine Qd List.take_length (.keep (.v _)) ⟨by rw [he, Bool.false_and], rfl⟩
    · have hkn : k = l.length := by omega
      subst hkn
      have z1 : ¬ ((l.length : Nat) : Int) < l.length := by omega
      rw [List.drop_length] at he
      repeat (first | (((with_reducible refine Qa fun K E hK hE => ?_)); simp -implicitDefEqProofs only [Qf, Qb, Qi, OpW, aop, AS.ev, Qc, Qz, Nat.reduceLT, aBin, Option.map_some, QY, decide_false, t8, t9, z1]) | (with_reducible (first | refine Qh fun K hK => ?_ | refine Qo ?_ | refine Q1 ?_ | refine Qe ?_ | refine QS ?_ | refine QR ?_)) | ((with_reducible refine hK _ ?_); clear hK) | (clear hK; (with_reducible refine hK _ ?_); clear hK) | (refine Qj rfl ?_; simp only [↓reduceIte, Bool.false_eq_true]))
      simp only [QO, Qp, Qv, upd, ↓reduceIte, Option.some.injEq, exists_eq_left']; first | refine Qd (htake _ _) (.keep (.v _)) ⟨by rw [he]; rfl, rfl⟩ | refine Qd List.take_length (.keep (.v _)) ⟨by rw [he]; rfl, rfl⟩
  · rw [hI]
    exact ⟨0, rfl, by omega, rfl, rfl, rfl, rfl, rfl, [], (List.append_nil _).symm⟩
end
theorem Qd2 (g : G) : g.atom.isAgg = true ∧ g.atom.cells.length = 2 ∧ g.atom.cells.all AV.cell1 = true := ⟨rfl, rfl, rfl⟩
theorem QcG (g : G) : g.goal.isAgg = true ∧ g.goal.cells.length = 3 ∧ g.goal.cells.all AV.cell1 = true := ⟨rfl, rfl, rfl⟩
/-- a text that is not too long -/
def Qa5 (s : ByteArray) : ByteArray := if 16384 < s.size then { data := #[] } else s
theorem QaZ (s : ByteArray) : Pure Tryz.prog 40 [.v (.string s)] (.v (.string (Qa5 s))) := by
  intro h
  have hsl := Qaz Tryz.prog 9 3 Qjh s
  by_cases hz : 16384 < s.size
  · have z : (s.size : Int) > 16384 := by omega
    refine Qg Tryz.func40 rfl Tryz.call40 Tryz.ntmps40 (congrArg Array.toList Tryz.results40) (by simp) ?_
    repeat (first | (((with_reducible refine Qa fun K E hK hE => ?_)); simp -implicitDefEqProofs only [Qf, Qb, Qi, OpW, aop, undef, AS.ev, Qc, Qq, QM, Qm, QC, List.getD_cons_zero, ↓reduceIte, Nat.reduceLT, Nat.reduceEqDiff, aBin, aLen, Option.map_some, Q6, goInt, decide_true, hsl, z]) | (with_reducible (first | refine Qh fun K hK => ?_ | refine Qo ?_ | refine QA ?_)) | ((with_reducible refine hK _ ?_); clear hK) | (refine Qj rfl ?_; simp only [↓reduceIte]))
    simp only [QO, Qp, Qv, upd, ↓reduceIte, Option.some.injEq, exists_eq_left']; first | refine Qd (htake _ _) (.keep (.v _)) ⟨by rw [Qa5, if_pos hz], rfl⟩ | refine Qd List.take_length (.keep (.v _)) ⟨by rw [Qa5, if_pos hz], rfl⟩
  · have z : ¬ (s.size : Int) > 16384 := by omega
    refine Qg Tryz.func40 rfl Tryz.call40 Tryz.ntmps40 (congrArg Array.toList Tryz.results40) (by simp) ?_
    repeat (first | (((with_reducible refine Qa fun K E hK hE => ?_)); simp -implicitDefEqProofs only [Qf, Qb, Qi, OpW, aop, undef, AS.ev, Qc, Qq, QM, Qm, QC, List.getD_cons_zero, ↓reduceIte, Nat.reduceLT, Nat.reduceEqDiff, aBin, aLen, Option.map_some, Q6, goInt, decide_false, hsl, z]) | (with_reducible (first | refine Qh fun K hK => ?_ | refine Qo ?_ | refine Qt ?_ | refine Qe ?_)) | ((with_reducible refine hK _ ?_); clear hK) | (refine Qj rfl ?_; simp only [↓reduceIte, Bool.false_eq_true]))
    simp only [QO, Qp, Qv, upd, ↓reduceIte, Option.some.injEq, exists_eq_left']; first | refine Qd (htake _ _) (.keep (.v _)) ⟨by rw [Qa5, if_neg hz], rfl⟩ | refine Qd List.take_length (.keep (.v _)) ⟨by rw [Qa5, if_neg hz], rfl⟩
def catB : List ByteArray → ByteArray
  | [] => .empty
  | x :: l => x ++ catB l
def QeW (l : List ByteArray) : List AV := vs (fun s => .v (.string s)) l
theorem QiU {h : AH} {i j : Nat} (hi : i < h.length) (hj : j < h.length) (hij : i ≠ j) (l : List ByteArray) (hl : 0 < l.length) (hl2 : l.length ≤ 1000000) (u : Bool) (tx : ByteArray) (hs : tx.size + (catB l).size ≤ 140737488355328) :
    XG Tryz.prog 34 [.sl 1 (QeW l) none, .ptr i 0 0] (HS h i j u tx) fun o h' => o = .ret (.tup []) ∧ h' = HS h i j true (tx ++ catB l) := by
  have hlv : (QeW l).length = l.length := QF _ _
  refine Qg Tryz.func34 rfl Tryz.call34 Tryz.ntmps34 (congrArg Array.toList Tryz.results34) (by simp) ?_
  repeat (first | (((with_reducible refine Qa fun K E hK hE => ?_)); simp -implicitDefEqProofs only [Qf, Qb, Qi, OpW, aop, undef, AS.ev, Qc, Qq, Qm, QC, List.getD_cons_zero, ↓reduceIte, Nat.reduceLT, aLen, Option.map_some, goInt, un48, hlv]) | (with_reducible refine Qk ?_) | ((with_reducible refine hK _ ?_); clear hK))
  obtain ⟨I, hI⟩ : ∃ I : Nat → AS → Prop, I = fun m' s => ∃ (k : Nat) (cur : ByteArray), m' = l.length - k ∧ k ≤ l.length ∧ cur ++ catB (l.drop k) = tx ++ catB l ∧ s.tm 1 = .ptr i 0 0 ∧ s.tm 5 = .sl 1 (QeW l) none ∧ s.tm 6 = .i l.length ∧ s.tm 7 = .i k ∧ s.h = HS h i j (u || decide (0 < k)) cur := ⟨_, rfl⟩; refine Q4 I ?_ (m := l.length) ?_
  · intro m' s hs; rw [hI] at hs; obtain ⟨tm, hp⟩ := s; dsimp only at hs; obtain ⟨k, cur, rfl, hk, he, t1, t5, t6, t7, rfl⟩ := hs
    by_cases hlt : k < l.length
    · have hg : (QeW l)[k]? = some (.v (.string l[k])) := YG _ hlt
      have z1 : (k : Int) < l.length := by omega
      have hsz : cur.size + (catB (l.drop k)).size = tx.size + (catB l).size := by rw [← Qu, he, Qu]
      rw [List.drop_eq_getElem_cons hlt, catB] at he hsz
      rw [Qu] at hsz
      have c := sstr hi hj hij (u || decide (0 < k)) cur l[k] (by omega)
      repeat (first | ((first | (with_reducible (first | refine Qa fun K E hK hE => ?_ | refine Qn fun K E hK hE => ?_ | refine FunW.ret (FunW.call c) ?_))); simp -implicitDefEqProofs only [Qf, Qb, Qi, OpW, QW, aop, AS.ev, Qc, Qq, Qm, Q3, ↓reduceIte, Nat.reduceLT, Nat.reduceEqDiff, and_self, QI, QJ, QL, aBin, List.getElem?_cons_zero, Option.map_some, List.map_cons, List.map_nil, QY, Xj, decide_true, Int.toNat_natCast, Int.natCast_nonneg, ti9, ei48, t1, t5, t6, t7, z1, hg, hlv]) | (with_reducible (first | refine Qh fun K hK => ?_ | refine Qk ?_ | refine Qt ?_ | refine Qe ?_ | refine Qs ?_)) | ((with_reducible refine hK _ ?_); clear hK) | (refine Qj rfl ?_; simp only [↓reduceIte]))
      refine XE.mk (m' := l.length - (k + 1)) (by omega) ?_
      rw [hI]
      refine ⟨k + 1, cur ++ l[k], rfl, hlt, by rw [ByteArray.append_assoc]; exact he, t1, t5, t6, ?_, by rw [decide_eq_true (Nat.succ_pos k), Bool.or_true]⟩
      simp only [upd, ↓reduceIte]
      rw [Xf (by omega)]
    · have hkn : k = l.length := by omega
      subst hkn
      have z1 : ¬ ((l.length : Nat) : Int) < l.length := by omega
      rw [List.drop_length, catB, ByteArray.append_empty] at he
      rw [decide_eq_true hl, Bool.or_true]
      repeat (first | (((with_reducible refine Qa fun K E hK hE => ?_)); simp -implicitDefEqProofs only [Qf, Qb, Qi, OpW, aop, AS.ev, Qc, Nat.reduceLT, aBin, Option.map_some, QY, decide_false, t6, t7, z1]) | (with_reducible (first | refine Qh fun K hK => ?_ | refine Q1 ?_ | refine QS ?_ | refine QR ?_)) | ((with_reducible refine hK _ ?_); clear hK) | (refine Qj rfl ?_; simp only [↓reduceIte, Bool.false_eq_true]))
      simp -implicitDefEqProofs only [Option.map_some, Option.some.injEq, List.mapM_nil, Option.pure_def, Option.map_some, QO, Qp, exists_eq_left']
      exact .inr ⟨rfl, by rw [he]⟩
  · rw [hI]
    exact ⟨0, tx, rfl, by omega, rfl, rfl, rfl, rfl, rfl, by rw [decide_eq_false (by omega), Bool.or_false]⟩
end Go.Proofs.YtenheconhibonaaGreatDoor.Ab
set_option linter.unusedVariables false
namespace Go.Proofs.YtenheconhibonaaGreatDoor.Ab
mutual
/-- the occurrences of variables -/
def T.vars : T → List Int
  | .mk k i _ l => if k = 1 then [i] else if k = 2 then XD l else []
def XD : List T → List Int
  | [] => []
  | t :: l => t.vars ++ XD l
end
theorem Y9 : ∀ l r : List T, XD (l ++ r) = XD l ++ XD r
  | [], r => rfl
  | t :: l, r => by simp only [List.cons_append, XD, Y9 l r, List.append_assoc]
def ins (s : List Int) (n : Int) : List Int := if n ∈ s then s else s ++ [n]
def ded : List Int → List Int → List Int
  | s, [] => s
  | s, n :: l => ded (ins s n) l
theorem Y8 : ∀ s l r : List Int, ded s (l ++ r) = ded (ded s l) r
  | s, [], r => rfl
  | s, n :: l, r => by simp only [List.cons_append, ded, Y8]
theorem Qju (s : List Int) (n : Int) : ∃ r, ins s n = s ++ r := by
  unfold ins
  split
  · exact ⟨[], by simp⟩
  · exact ⟨[n], rfl⟩
theorem QbU : ∀ s l : List Int, ∃ r, ded s l = s ++ r
  | s, [] => ⟨[], by simp [ded]⟩
  | s, n :: l => by
    obtain ⟨r, h⟩ := Qju s n
    obtain ⟨r', h'⟩ := QbU (ins s n) l
    exact ⟨r ++ r', by rw [ded, h', h, List.append_assoc]⟩
theorem QdH {s : List Int} {n v : Int} : v ∈ ins s n ↔ v ∈ s ∨ v = n := by
  unfold ins
  split
  · rename_i h
    exact ⟨.inl, fun h' => h'.elim id (fun e => e ▸ h)⟩
  · simp
theorem QhP : ∀ {s l : List Int} {v : Int}, v ∈ ded s l ↔ v ∈ s ∨ v ∈ l
  | s, [], v => by simp [ded]
  | s, n :: l, v => by
    simp only [ded, QhP (l := l), QdH, List.mem_cons, or_assoc]
theorem Qil {s : List Int} {n : Int} (h : s.Nodup) : (ins s n).Nodup := by
  unfold ins
  split
  · exact h
  · rename_i hn
    rw [List.nodup_append]
    exact ⟨h, by simp, fun a ha b hb e => by simp at hb; subst hb; subst e; exact hn ha⟩
theorem QeN : ∀ {s l : List Int}, s.Nodup → (ded s l).Nodup
  | s, [], h => h
  | s, n :: l, h => QeN (l := l) (Qil h)
theorem QgM (s : List Int) (n : Int) : (ins s n).length ≤ s.length + 1 := by
  unfold ins
  split
  · omega
  · simp
theorem Y7 : ∀ s l : List Int, (ded s l).length ≤ s.length + l.length
  | s, [] => by simp [ded]
  | s, n :: l => by
    have h1 := Y7 (ins s n) l
    have h2 := QgM s n
    simp only [ded, List.length_cons]
    omega
/-- the place of a number; the length, if it is not there -/
def plc : List Int → Int → Nat
  | [], _ => 0
  | a :: l, n => if a = n then 0 else plc l n + 1
theorem Qds {n : Int} : ∀ {s : List Int} (r : List Int), n ∈ s → plc (s ++ r) n = plc s n
  | a :: s, r, h => by
    simp only [List.cons_append, plc]
    split
    · rfl
    · rename_i hne
      rw [Qds r (by rcases List.mem_cons.1 h with h | h; exact absurd h.symm hne; exact h)]
theorem Qda {n : Int} {s : List Int} (r : List Int) (h : n ∉ s) : plc (s ++ n :: r) n = s.length := by
  induction s with
  | nil => simp [plc]
  | cons a s ih =>
    simp only [List.mem_cons, not_or] at h
    simp only [List.cons_append, plc, if_neg (fun e : a = n => h.1 e.symm), ih h.2, List.length_cons]
theorem QhY {n : Int} : ∀ {s : List Int}, n ∈ s → plc s n < s.length
  | a :: s, h => by
    simp only [plc, List.length_cons]
    split
    · omega
    · rename_i hne
      have := QhY (s := s) (n := n) (by rcases List.mem_cons.1 h with h | h; exact absurd h.symm hne; exact h)
      omega
theorem QhL {n : Int} : ∀ {s : List Int} (h : plc s n < s.length), s[plc s n] = n
  | a :: s, h => by
    simp only [plc] at h ⊢
    by_cases e : a = n
    · simp [e]
    · simp only [if_neg e, List.length_cons] at h ⊢
      simp only [List.getElem_cons_succ]
      exact QhL (by omega)
theorem QhW {n : Int} {s : List Int} (h : n ∈ s) : s[plc s n]'(QhY h) = n := QhL _
theorem Qie : ∀ {s : List Int} {i : Nat} (hn : s.Nodup) (h : i < s.length), plc s s[i] = i
  | a :: s, 0, hn, h => by simp [plc]
  | a :: s, i + 1, hn, h => by
    rw [List.nodup_cons] at hn
    have hi : i < s.length := by simpa using h
    have hne : a ≠ s[i] := fun e => hn.1 (e ▸ List.getElem_mem hi)
    simp only [List.getElem_cons_succ, plc, if_neg hne, Qie hn.2 hi]
end Go.Proofs.YtenheconhibonaaGreatDoor.Ab
set_option linter.unusedSimpArgs false
set_option linter.unusedVariables false
namespace Go.Proofs.YtenheconhibonaaGreatDoor.Ab
mutual
def T.map (g : Int → Int) : T → T
  | .mk k i n l => if k = 1 then .mk k (g i) n l else if k = 2 then .mk k i n (maps g l) else .mk k i n l
def maps (g : Int → Int) : List T → List T
  | [] => []
  | t :: l => t.map g :: maps g l
end
mutual
def T.mapS {σ : Type} (g : σ → Int → Int × σ) : σ → T → T × σ
  | s, .mk k i n l => if k = 1 then (.mk k (g s i).1 n l, (g s i).2) else if k = 2 then (.mk k i n (Qbw g s l).1, (Qbw g s l).2) else (.mk k i n l, s)
def Qbw {σ : Type} (g : σ → Int → Int × σ) : σ → List T → List T × σ
  | s, [] => ([], s)
  | s, t :: l => ((T.mapS g s t).1 :: (Qbw g (T.mapS g s t).2 l).1, (Qbw g (T.mapS g s t).2 l).2)
end
theorem T.Qkp {σ : Type} (g : σ → Int → Int × σ) (s : σ) (t : T) : T.mapS g s t = if t.kind = 1 then (.mk t.kind (g s t.int).1 t.name t.args, (g s t.int).2) else if t.kind = 2 then (.mk t.kind t.int t.name (Qbw g s t.args).1, (Qbw g s t.args).2) else (t, s) := by
  cases t; simp only [T.mapS, T.kind, T.int, T.name, T.args]; rfl
def gNum : List Int → Int → Int × List Int := fun s n => ((plc (ins s n) n : Nat), ins s n)
mutual
theorem T.Qka : ∀ (s : List Int) (t : T) (r : List Int), T.mapS gNum s t = (t.map fun n => ((plc (ded s t.vars ++ r) n : Nat) : Int), ded s t.vars)
  | s, .mk k i n l, r => by
    simp only [T.mapS, T.map, T.vars]
    split
    · rename_i h
      simp only [gNum, ded]
      rw [Qds r (QdH.2 (.inr rfl))]
    · split
      · rw [Qa2 s l r]
      · rfl
theorem Qa2 : ∀ (s : List Int) (l : List T) (r : List Int), Qbw gNum s l = (maps (fun n => ((plc (ded s (XD l) ++ r) n : Nat) : Int)) l, ded s (XD l))
  | s, [], r => rfl
  | s, t :: l, r => by
    obtain ⟨q, hq⟩ := QbU (ded s t.vars) (XD l)
    simp only [Qbw, maps, XD]
    rw [T.Qka s t (q ++ r)]
    simp only
    rw [Qa2 _ l r]
    simp only [Y8, hq, List.append_assoc]
end
def ZC (s : List Int) : List (Int × AV) := s.zipIdx.map fun p => (p.1, AV.v (.int .i64 ((p.2 : Nat) : Int)))
theorem QfC (s : List Int) (n : Int) : ZC (s ++ [n]) = ZC s ++ [(n, .v (.int .i64 s.length))] := by
  simp [ZC, List.zipIdx_append]
theorem QfT (n : Int) : ∀ (s : List Int), Qez n (ZC s) = if n ∈ s then some (.v (.int .i64 (plc s n : Nat))) else none := by
  have gen : ∀ (s : List Int) (k : Nat), Qez n ((s.zipIdx k).map fun p => (p.1, AV.v (.int .i64 ((p.2 : Nat) : Int)))) = if n ∈ s then some (.v (.int .i64 ((k + plc s n : Nat) : Int))) else none := by
    intro s
    induction s with
    | nil => intro k; rfl
    | cons a s ih =>
      intro k
      simp only [List.zipIdx_cons, List.map_cons, Qez, ih]
      by_cases h : n = a
      · subst h; simp [plc]
      · rw [if_neg h]
        simp only [List.mem_cons, h, false_or, plc, if_neg (fun e : a = n => h e.symm)]
        split
        · congr 3; omega
        · rfl
  intro s
  have := gen s 0
  simpa [ZC] using this
def XU {X σ : Type} (g : σ → X → X × σ) : σ → List X → List X × σ
  | s, [] => ([], s)
  | s, x :: l => ((g s x).1 :: (XU g (g s x).2 l).1, (XU g (g s x).2 l).2)
theorem Qam {σ : Type} (g : σ → Int → Int × σ) : ∀ (s : σ) (l : List T), Qbw g s l = XU (T.mapS g) s l
  | s, [] => rfl
  | s, t :: l => by rw [Qbw, XU, Qam g _ l]
theorem Zy {X σ : Type} (g : σ → X → X × σ) : ∀ (s : σ) (l : List X), (XU g s l).1.length = l.length
  | s, [] => rfl
  | s, x :: l => by simp only [XU, List.length_cons, Zy g _ l]
def mapB (s : List Int) : AB := .map (imap (ZC s))
theorem YP (s : List Int) (n : Nat) : (mapB s).Below n := by
  intro kv hkv
  simp only [imap, ZC, List.mem_map] at hkv
  obtain ⟨_, ⟨_, _, rfl⟩, rfl⟩ := hkv
  exact .v _
theorem QbB (s : List Int) : (imap (ZC s)).length = s.length := by simp [imap, ZC]
end Go.Proofs.YtenheconhibonaaGreatDoor.Ab
set_option linter.unusedSimpArgs false
set_option linter.unusedVariables false
set_option maxHeartbeats 4000000
set_option maxRecDepth 4000
namespace Go.Proofs.YtenheconhibonaaGreatDoor.Ab
open Go.Proofs
section
variable {X : Type} (f : X → AV) (fv : AV)
theorem QaL (hfc : ∀ x, (f x).isAgg = true ∧ (f x).cells.length = 4 ∧ (f x).cells.all AV.cell1 = true) (hfb : ∀ (n : Nat) x, ∀ a ∈ (f x).cells, Below n a) (g : List Int → X → X × List Int) (w : X → Nat) (hw : ∀ s x, (g s x).2.length ≤ s.length + w x)
    (l : List X) (hl2 : l.length ≤ 1000000) (m : Nat) (h : AH) (hm : m < h.length) (s0 : List Int) (hs0 : s0.length + (l.map w).sum ≤ 1000000)
    (ih : ∀ x ∈ l, ∀ (h : AH) (s : List Int), m < h.length → s.length + w x ≤ 1000000 → FunW Tryz.prog fv [f x] (hs h m (mapB s)) fun o h' => o = .ret (f (g s x).1) ∧ h' = hs h m (mapB (g s x).2)) :
    XG Tryz.prog 96 [.sl 4 (vs f l) none, fv] (hs h m (mapB s0)) fun o h' => o = .ret (.sl 4 (vs f (XU g s0 l).1) none) ∧ h' = hs h m (mapB (XU g s0 l).2) := by
  have f1 := fun x => Y1 h m x
  have f2 := fun x L => Qax (h := h) (i := m) x L
  have f3 := fun x L k => Qde (h := h) (i := m) x L k
  have f4 := fun x y L => Qa0 (h := h) (i := m) x y L
  have f5 := fun x y L k => QbS (h := h) (i := m) x y L k
  refine Qg Tryz.func96 rfl Tryz.call96 Tryz.ntmps96 (congrArg Array.toList Tryz.results96) (by simp) ?_
  iterate 4 (try (first | (((with_reducible refine Qa fun K E hK hE => ?_)); simp -implicitDefEqProofs only [Qf, Qb, Qi, OpW, aop, AS.ev, Qc, Xo, Nat.reduceLT]) | ((with_reducible refine hK _ ?_); clear hK)))
  refine YL 5 69 4 rfl ?_
  repeat (first | (((with_reducible refine Qa fun K E hK hE => ?_)); simp -implicitDefEqProofs only [Qf, Qb, Qi, OpW, aop, undef, AS.ev, Qc, Qq, Qm, QC, List.getD_cons_zero, ↓reduceIte, Nat.reduceLT, Nat.reduceEqDiff, aLen, Option.map_some, goInt, un44, QF]) | (with_reducible (first | refine Qh fun K hK => ?_ | refine Qk ?_)) | ((with_reducible refine hK _ ?_); clear hK))
  obtain ⟨I, hI⟩ : ∃ I : Nat → AS → Prop, I = fun m' s => ∃ (k : Nat) (out : List X) (cur : List Int), m' = l.length - k ∧ k ≤ l.length ∧ out.length = k ∧ XU g s0 l = (out ++ (XU g cur (l.drop k)).1, (XU g cur (l.drop k)).2) ∧ cur.length + ((l.drop k).map w).sum ≤ 1000000 ∧ s.tm 1 = fv ∧ s.tm 5 = .sl 4 (vs f out) (some h.length) ∧ s.tm 8 = .sl 4 (vs f l) none ∧ s.tm 9 = .i l.length ∧ s.tm 10 = .i k ∧ (∃ L, s.h = hs h m (mapB cur) ++ (AB.grow 69 4 k :: L)) := ⟨_, rfl⟩; refine Q4 I ?_ (m := l.length) ?_
  · intro m' s hs; rw [hI] at hs; obtain ⟨tm, hp⟩ := s; dsimp only at hs; obtain ⟨k, out, cur, rfl, hk, ho, he, hw2, t1, t5, t8, t9, t10, L, rfl⟩ := hs
    by_cases hlt : k < l.length
    · have hg := YG f hlt
      have z1 : (k : Int) < l.length := by omega
      obtain ⟨hag, hcl, hc1⟩ := hfc l[k]
      have hd : l.drop k = l[k] :: l.drop (k + 1) := List.drop_eq_getElem_cons hlt
      rw [hd] at he hw2
      rw [List.map_cons, List.sum_cons] at hw2
      simp only [XU] at he
      obtain ⟨x', ex'⟩ : ∃ x', x' = (g cur l[k]).1 := ⟨_, rfl⟩
      obtain ⟨cur', ec'⟩ : ∃ x', x' = (g cur l[k]).2 := ⟨_, rfl⟩
      have hwk := hw cur l[k]
      obtain ⟨hag', hcl', hc1'⟩ := hfc x'
      have c2 := ih l[k] (List.getElem_mem hlt) (h ++ (AB.grow 69 4 k :: (L ++ [AB.cells 69 4 [f l[k]]]))) cur (by rw [List.length_append]; omega) (by omega)
      rw [ZQ hm, ZQ hm, ← ex', ← ec'] at c2
      rw [← ex', ← ec'] at he
      rw [← ec'] at hwk
      have hb1 : k + 1 ≤ maxLen := by simp only [maxLen]; omega
      have hb2 : (k + 1) * 56 ≤ 140737488355328 := by omega
      have e5 : vs f (out ++ [x']) = vs f out ++ [f x'] := Qau f out [x']
      repeat (first | ((first | (with_reducible (first | refine Qa fun K E hK hE => ?_ | refine Qn fun K E hK hE => ?_ | refine FunW.ret c2 ?_))); simp -implicitDefEqProofs only [Qf, Qb, Qi, OpW, QW, aop, undef, AS.ev, Qc, QV, Qq, Qm, AV.Qj3, Qr, QD, List.all_cons, List.all_nil, QB, Qw, QN, Bool.and_self, ↓reduceIte, List.length_cons, List.length_nil, Nat.reduceAdd, Nat.reduceLT, Nat.reduceLeDiff, Nat.reduceEqDiff, Nat.reduceMul, Nat.zero_add, and_self, QI, QJ, Xb, QZ, QL, aBin, Q5, YD, Zd, QX, X0, hlen, happ, List.getElem?_cons_zero, List.getElem?_cons_succ, List.set_cons_zero, List.set_cons_succ, Option.map_some, List.map_cons, List.map_nil, List.cons_append, QY, Xj, decide_true, beq_self_eq_true, Int.toNat_natCast, Int.natCast_nonneg, rng1, Xa, Nat.reducePow, ei44, ai44, ti69, zi69, t1, t5, t8, t9, t10, z1, hg, hag, hcl, hc1, hcl', hc1', f1, f2, f3, f4, f5, hb1, hb2, ho, QF]) | (with_reducible (first | refine Qh fun K hK => ?_ | refine Qk ?_ | refine Qt ?_ | refine Qe ?_ | refine Qs ?_)) | ((with_reducible refine hK _ ?_); clear hK) | (refine Qj rfl ?_; simp only [↓reduceIte]))
      refine XE.mk (m' := l.length - (k + 1)) (by omega) ?_
      rw [hI]
      refine ⟨k + 1, out ++ [x'], cur', rfl, hlt, by rw [List.length_append, ho]; rfl, ?_, by omega, t1, ?_, t8, t9, ?_, _, rfl⟩
      · rw [he]; simp only [List.append_assoc, List.cons_append, List.nil_append]
      · rw [e5]; rfl
      · simp only [upd, ↓reduceIte]
        rw [Xf (by omega)]
    · have hkn : k = l.length := by omega
      subst hkn
      have z1 : ¬ ((l.length : Nat) : Int) < l.length := by omega
      rw [List.drop_length] at he
      simp only [XU, List.append_nil] at he
      repeat (first | (((with_reducible refine Qa fun K E hK hE => ?_)); simp -implicitDefEqProofs only [Qf, Qb, Qi, OpW, aop, AS.ev, Qc, Qm, ↓reduceIte, Nat.reduceLT, Nat.reduceEqDiff, aBin, Option.map_some, QY, decide_false, t5, t9, t10, z1]) | (with_reducible (first | refine Qh fun K hK => ?_ | refine Qo ?_ | refine Q1 ?_ | refine Qe ?_ | refine QS ?_ | refine QR ?_)) | ((with_reducible refine hK _ ?_); clear hK) | (clear hK; (with_reducible refine hK _ ?_); clear hK) | (refine Qj rfl ?_; simp only [↓reduceIte, Bool.false_eq_true]))
      simp only [QO, Qp, Qv, upd, ↓reduceIte, Option.some.injEq, exists_eq_left']
      rw [he]
      exact Xi (YP _ _) (.tok (QaO f _ (hfb _) _)) ⟨rfl, rfl⟩
  · rw [hI]
    exact ⟨0, [], s0, rfl, by omega, rfl, rfl, hs0, rfl, (by show AV.sl 4 [] (some (hs h m (mapB s0)).length) = _; rw [Y1]; rfl), rfl, rfl, rfl, [], rfl⟩
end
section
variable {X : Type} (f : X → AV) (fv : AV)
theorem Qfp (hfc : ∀ x, (f x).isAgg = true ∧ (f x).cells.length = 2 ∧ (f x).cells.all AV.cell1 = true) (hfb : ∀ (n : Nat) x, ∀ a ∈ (f x).cells, Below n a) (g : List Int → X → X × List Int) (w : X → Nat) (hw : ∀ s x, (g s x).2.length ≤ s.length + w x)
    (l : List X) (hl2 : l.length ≤ 1000000) (m : Nat) (h : AH) (hm : m < h.length) (s0 : List Int) (hs0 : s0.length + (l.map w).sum ≤ 1000000)
    (ih : ∀ x ∈ l, ∀ (h : AH) (s : List Int), m < h.length → s.length + w x ≤ 1000000 → FunW Tryz.prog fv [f x] (hs h m (mapB s)) fun o h' => o = .ret (f (g s x).1) ∧ h' = hs h m (mapB (g s x).2)) :
    XG Tryz.prog 47 [.sl 2 (vs f l) none, fv] (hs h m (mapB s0)) fun o h' => o = .ret (.sl 2 (vs f (XU g s0 l).1) none) ∧ h' = hs h m (mapB (XU g s0 l).2) := by
  have f1 := fun x => Y1 h m x
  have f2 := fun x L => Qax (h := h) (i := m) x L
  have f3 := fun x L k => Qde (h := h) (i := m) x L k
  have f4 := fun x y L => Qa0 (h := h) (i := m) x y L
  have f5 := fun x y L k => QbS (h := h) (i := m) x y L k
  refine Qg Tryz.func47 rfl Tryz.call47 Tryz.ntmps47 (congrArg Array.toList Tryz.results47) (by simp) ?_
  iterate 4 (try (first | (((with_reducible refine Qa fun K E hK hE => ?_)); simp -implicitDefEqProofs only [Qf, Qb, Qi, OpW, aop, AS.ev, Qc, Xo, Nat.reduceLT]) | ((with_reducible refine hK _ ?_); clear hK)))
  refine YL 5 66 2 rfl ?_
  repeat (first | (((with_reducible refine Qa fun K E hK hE => ?_)); simp -implicitDefEqProofs only [Qf, Qb, Qi, OpW, aop, undef, AS.ev, Qc, Qq, Qm, QC, List.getD_cons_zero, ↓reduceIte, Nat.reduceLT, Nat.reduceEqDiff, aLen, Option.map_some, goInt, un22, QF]) | (with_reducible (first | refine Qh fun K hK => ?_ | refine Qk ?_)) | ((with_reducible refine hK _ ?_); clear hK))
  obtain ⟨I, hI⟩ : ∃ I : Nat → AS → Prop, I = fun m' s => ∃ (k : Nat) (out : List X) (cur : List Int), m' = l.length - k ∧ k ≤ l.length ∧ out.length = k ∧ XU g s0 l = (out ++ (XU g cur (l.drop k)).1, (XU g cur (l.drop k)).2) ∧ cur.length + ((l.drop k).map w).sum ≤ 1000000 ∧ s.tm 1 = fv ∧ s.tm 5 = .sl 2 (vs f out) (some h.length) ∧ s.tm 8 = .sl 2 (vs f l) none ∧ s.tm 9 = .i l.length ∧ s.tm 10 = .i k ∧ (∃ L, s.h = hs h m (mapB cur) ++ (AB.grow 66 2 k :: L)) := ⟨_, rfl⟩; refine Q4 I ?_ (m := l.length) ?_
  · intro m' s hs; rw [hI] at hs; obtain ⟨tm, hp⟩ := s; dsimp only at hs; obtain ⟨k, out, cur, rfl, hk, ho, he, hw2, t1, t5, t8, t9, t10, L, rfl⟩ := hs
    by_cases hlt : k < l.length
    · have hg := YG f hlt
      have z1 : (k : Int) < l.length := by omega
      obtain ⟨hag, hcl, hc1⟩ := hfc l[k]
      have hd : l.drop k = l[k] :: l.drop (k + 1) := List.drop_eq_getElem_cons hlt
      rw [hd] at he hw2
      rw [List.map_cons, List.sum_cons] at hw2
      simp only [XU] at he
      obtain ⟨x', ex'⟩ : ∃ x', x' = (g cur l[k]).1 := ⟨_, rfl⟩
      obtain ⟨cur', ec'⟩ : ∃ x', x' = (g cur l[k]).2 := ⟨_, rfl⟩
      have hwk := hw cur l[k]
      obtain ⟨hag', hcl', hc1'⟩ := hfc x'
      have c2 := ih l[k] (List.getElem_mem hlt) (h ++ (AB.grow 66 2 k :: (L ++ [AB.cells 66 2 [f l[k]]]))) cur (by rw [List.length_append]; omega) (by omega)
      rw [ZQ hm, ZQ hm, ← ex', ← ec'] at c2
      rw [← ex', ← ec'] at he
      rw [← ec'] at hwk
      have hb1 : k + 1 ≤ maxLen := by simp only [maxLen]; omega
      have hb2 : (k + 1) * 40 ≤ 140737488355328 := by omega
      have e5 : vs f (out ++ [x']) = vs f out ++ [f x'] := Qau f out [x']
      repeat (first | ((first | (with_reducible (first | refine Qa fun K E hK hE => ?_ | refine Qn fun K E hK hE => ?_ | refine FunW.ret c2 ?_))); simp -implicitDefEqProofs only [Qf, Qb, Qi, OpW, QW, aop, undef, AS.ev, Qc, QV, Qq, Qm, AV.Qj3, Qr, QD, List.all_cons, List.all_nil, Qw, QN, Bool.and_self, ↓reduceIte, List.length_cons, List.length_nil, Nat.reduceAdd, Nat.reduceLT, Nat.reduceLeDiff, Nat.reduceEqDiff, Nat.reduceMul, Nat.zero_add, and_self, QI, QJ, Xb, QZ, QL, aBin, Q5, YD, Zd, QX, X0, hlen, happ, List.getElem?_cons_zero, List.getElem?_cons_succ, List.set_cons_zero, List.set_cons_succ, Option.map_some, List.map_cons, List.map_nil, List.cons_append, QY, Xj, decide_true, beq_self_eq_true, Int.toNat_natCast, Int.natCast_nonneg, rng1, Xa, Nat.reducePow, ei22, ai22, ti66, zi66, t1, t5, t8, t9, t10, z1, hg, hag, hcl, hc1, hcl', hc1', f1, f2, f3, f4, f5, hb1, hb2, ho, QF]) | (with_reducible (first | refine Qh fun K hK => ?_ | refine Qk ?_ | refine Qt ?_ | refine Qe ?_ | refine Qs ?_)) | ((with_reducible refine hK _ ?_); clear hK) | (refine Qj rfl ?_; simp only [↓reduceIte]))
      refine XE.mk (m' := l.length - (k + 1)) (by omega) ?_
      rw [hI]
      refine ⟨k + 1, out ++ [x'], cur', rfl, hlt, by rw [List.length_append, ho]; rfl, ?_, by omega, t1, ?_, t8, t9, ?_, _, rfl⟩
      · rw [he]; simp only [List.append_assoc, List.cons_append, List.nil_append]
      · rw [e5]; rfl
      · simp only [upd, ↓reduceIte]
        rw [Xf (by omega)]
    · have hkn : k = l.length := by omega
      subst hkn
      have z1 : ¬ ((l.length : Nat) : Int) < l.length := by omega
      rw [List.drop_length] at he
      simp only [XU, List.append_nil] at he
      repeat (first | (((with_reducible refine Qa fun K E hK hE => ?_)); simp -implicitDefEqProofs only [Qf, Qb, Qi, OpW, aop, AS.ev, Qc, Qm, ↓reduceIte, Nat.reduceLT, Nat.reduceEqDiff, aBin, Option.map_some, QY, decide_false, t5, t9, t10, z1]) | (with_reducible (first | refine Qh fun K hK => ?_ | refine Qo ?_ | refine Q1 ?_ | refine Qe ?_ | refine QS ?_ | refine QR ?_)) | ((with_reducible refine hK _ ?_); clear hK) | (clear hK; (with_reducible refine hK _ ?_); clear hK) | (refine Qj rfl ?_; simp only [↓reduceIte, Bool.false_eq_true]))
      simp only [QO, Qp, Qv, upd, ↓reduceIte, Option.some.injEq, exists_eq_left']
      rw [he]
      exact Xi (YP _ _) (.tok (QaO f _ (hfb _) _)) ⟨rfl, rfl⟩
  · rw [hI]
    exact ⟨0, [], s0, rfl, by omega, rfl, rfl, hs0, rfl, (by show AV.sl 2 [] (some (hs h m (mapB s0)).length) = _; rw [Y1]; rfl), rfl, rfl, rfl, [], rfl⟩
end
section
variable {X : Type} (f : X → AV) (fv : AV)
theorem Qfa (hfc : ∀ x, (f x).isAgg = true ∧ (f x).cells.length = 3 ∧ (f x).cells.all AV.cell1 = true) (hfb : ∀ (n : Nat) x, ∀ a ∈ (f x).cells, Below n a) (g : List Int → X → X × List Int) (w : X → Nat) (hw : ∀ s x, (g s x).2.length ≤ s.length + w x)
    (l : List X) (hl2 : l.length ≤ 1000000) (m : Nat) (h : AH) (hm : m < h.length) (s0 : List Int) (hs0 : s0.length + (l.map w).sum ≤ 1000000)
    (ih : ∀ x ∈ l, ∀ (h : AH) (s : List Int), m < h.length → s.length + w x ≤ 1000000 → FunW Tryz.prog fv [f x] (hs h m (mapB s)) fun o h' => o = .ret (f (g s x).1) ∧ h' = hs h m (mapB (g s x).2)) :
    XG Tryz.prog 49 [.sl 3 (vs f l) none, fv] (hs h m (mapB s0)) fun o h' => o = .ret (.sl 3 (vs f (XU g s0 l).1) none) ∧ h' = hs h m (mapB (XU g s0 l).2) := by
  have f1 := fun x => Y1 h m x
  have f2 := fun x L => Qax (h := h) (i := m) x L
  have f3 := fun x L k => Qde (h := h) (i := m) x L k
  have f4 := fun x y L => Qa0 (h := h) (i := m) x y L
  have f5 := fun x y L k => QbS (h := h) (i := m) x y L k
  refine Qg Tryz.func49 rfl Tryz.call49 Tryz.ntmps49 (congrArg Array.toList Tryz.results49) (by simp) ?_
  iterate 4 (try (first | (((with_reducible refine Qa fun K E hK hE => ?_)); simp -implicitDefEqProofs only [Qf, Qb, Qi, OpW, aop, AS.ev, Qc, Xo, Nat.reduceLT]) | ((with_reducible refine hK _ ?_); clear hK)))
  refine YL 5 53 3 rfl ?_
  repeat (first | (((with_reducible refine Qa fun K E hK hE => ?_)); simp -implicitDefEqProofs only [Qf, Qb, Qi, OpW, aop, undef, AS.ev, Qc, Qq, Qm, QC, List.getD_cons_zero, ↓reduceIte, Nat.reduceLT, Nat.reduceEqDiff, aLen, Option.map_some, goInt, un23, QF]) | (with_reducible (first | refine Qh fun K hK => ?_ | refine Qk ?_)) | ((with_reducible refine hK _ ?_); clear hK))
  obtain ⟨I, hI⟩ : ∃ I : Nat → AS → Prop, I = fun m' s => ∃ (k : Nat) (out : List X) (cur : List Int), m' = l.length - k ∧ k ≤ l.length ∧ out.length = k ∧ XU g s0 l = (out ++ (XU g cur (l.drop k)).1, (XU g cur (l.drop k)).2) ∧ cur.length + ((l.drop k).map w).sum ≤ 1000000 ∧ s.tm 1 = fv ∧ s.tm 5 = .sl 3 (vs f out) (some h.length) ∧ s.tm 8 = .sl 3 (vs f l) none ∧ s.tm 9 = .i l.length ∧ s.tm 10 = .i k ∧ (∃ L, s.h = hs h m (mapB cur) ++ (AB.grow 53 3 k :: L)) := ⟨_, rfl⟩; refine Q4 I ?_ (m := l.length) ?_
  · intro m' s hs; rw [hI] at hs; obtain ⟨tm, hp⟩ := s; dsimp only at hs; obtain ⟨k, out, cur, rfl, hk, ho, he, hw2, t1, t5, t8, t9, t10, L, rfl⟩ := hs
    by_cases hlt : k < l.length
    · have hg := YG f hlt
      have z1 : (k : Int) < l.length := by omega
      obtain ⟨hag, hcl, hc1⟩ := hfc l[k]
      have hd : l.drop k = l[k] :: l.drop (k + 1) := List.drop_eq_getElem_cons hlt
      rw [hd] at he hw2
      rw [List.map_cons, List.sum_cons] at hw2
      simp only [XU] at he
      obtain ⟨x', ex'⟩ : ∃ x', x' = (g cur l[k]).1 := ⟨_, rfl⟩
      obtain ⟨cur', ec'⟩ : ∃ x', x' = (g cur l[k]).2 := ⟨_, rfl⟩
      have hwk := hw cur l[k]
      obtain ⟨hag', hcl', hc1'⟩ := hfc x'
      have c2 := ih l[k] (List.getElem_mem hlt) (h ++ (AB.grow 53 3 k :: (L ++ [AB.cells 53 3 [f l[k]]]))) cur (by rw [List.length_append]; omega) (by omega)
      rw [ZQ hm, ZQ hm, ← ex', ← ec'] at c2
      rw [← ex', ← ec'] at he
      rw [← ec'] at hwk
      have hb1 : k + 1 ≤ maxLen := by simp only [maxLen]; omega
      have hb2 : (k + 1) * 48 ≤ 140737488355328 := by omega
      have e5 : vs f (out ++ [x']) = vs f out ++ [f x'] := Qau f out [x']
      repeat (first | ((first | (with_reducible (first | refine Qa fun K E hK hE => ?_ | refine Qn fun K E hK hE => ?_ | refine FunW.ret c2 ?_))); simp -implicitDefEqProofs only [Qf, Qb, Qi, OpW, QW, aop, undef, AS.ev, Qc, QV, Qq, Qm, AV.Qj3, Qr, QD, List.all_cons, List.all_nil, QB, Qw, QN, Bool.and_self, ↓reduceIte, List.length_cons, List.length_nil, Nat.reduceAdd, Nat.reduceLT, Nat.reduceLeDiff, Nat.reduceEqDiff, Nat.reduceMul, Nat.zero_add, and_self, QI, QJ, Xb, QZ, QL, aBin, Q5, YD, Zd, QX, X0, hlen, happ, List.getElem?_cons_zero, List.getElem?_cons_succ, List.set_cons_zero, List.set_cons_succ, Option.map_some, List.map_cons, List.map_nil, List.cons_append, QY, Xj, decide_true, beq_self_eq_true, Int.toNat_natCast, Int.natCast_nonneg, rng1, Xa, Nat.reducePow, ei23, ai23, ti53, zi53, t1, t5, t8, t9, t10, z1, hg, hag, hcl, hc1, hcl', hc1', f1, f2, f3, f4, f5, hb1, hb2, ho, QF]) | (with_reducible (first | refine Qh fun K hK => ?_ | refine Qk ?_ | refine Qt ?_ | refine Qe ?_ | refine Qs ?_)) | ((with_reducible refine hK _ ?_); clear hK) | (refine Qj rfl ?_; simp only [↓reduceIte]))
      refine XE.mk (m' := l.length - (k + 1)) (by omega) ?_
      rw [hI]
      refine ⟨k + 1, out ++ [x'], cur', rfl, hlt, by rw [List.length_append, ho]; rfl, ?_, by omega, t1, ?_, t8, t9, ?_, _, rfl⟩
      · rw [he]; simp only [List.append_assoc, List.cons_append, List.nil_append]
      · rw [e5]; rfl
      · simp only [upd, ↓reduceIte]
        rw [Xf (by omega)]
    · have hkn : k = l.length := by omega
      subst hkn
      have z1 : ¬ ((l.length : Nat) : Int) < l.length := by omega
      rw [List.drop_length] at he
      simp only [XU, List.append_nil] at he
      repeat (first | (((with_reducible refine Qa fun K E hK hE => ?_)); simp -implicitDefEqProofs only [Qf, Qb, Qi, OpW, aop, AS.ev, Qc, Qm, ↓reduceIte, Nat.reduceLT, Nat.reduceEqDiff, aBin, Option.map_some, QY, decide_false, t5, t9, t10, z1]) | (with_reducible (first | refine Qh fun K hK => ?_ | refine Qo ?_ | refine Q1 ?_ | refine Qe ?_ | refine QS ?_ | refine QR ?_)) | ((with_reducible refine hK _ ?_); clear hK) | (clear hK; (with_reducible refine hK _ ?_); clear hK) | (refine Qj rfl ?_; simp only [↓reduceIte, Bool.false_eq_true]))
      simp only [QO, Qp, Qv, upd, ↓reduceIte, Option.some.injEq, exists_eq_left']
      rw [he]
      exact Xi (YP _ _) (.tok (QaO f _ (hfb _) _)) ⟨rfl, rfl⟩
  · rw [hI]
    exact ⟨0, [], s0, rfl, by omega, rfl, rfl, hs0, rfl, (by show AV.sl 3 [] (some (hs h m (mapB s0)).length) = _; rw [Y1]; rfl), rfl, rfl, rfl, [], rfl⟩
end
end Go.Proofs.YtenheconhibonaaGreatDoor.Ab
set_option linter.unusedSimpArgs false
set_option linter.unusedVariables false
set_option maxHeartbeats 4000000
set_option maxRecDepth 4000
namespace Go.Proofs.YtenheconhibonaaGreatDoor.Ab
open Go.Proofs
theorem Qdp (l : List T) : avs l = vs T.av l := QaJ l
theorem QfW (t : T) : t.av.isAgg = true ∧ t.av.cells.length = 4 ∧ t.av.cells.all AV.cell1 = true := by cases t; exact ⟨rfl, rfl, rfl⟩
theorem Qem (n : Nat) (t : T) : ∀ a ∈ t.av.cells, Below n a := fun a ha => ZR n [t] a (by rw [Qhx, XV]; exact List.mem_append.2 (.inl ha))
mutual
theorem T.Qj5 : ∀ (t : T), t.vars.length ≤ t.nds
  | .mk k i n l => by
    simp only [T.vars, T.nds]
    split
    · simp
    · split
      · have := ZU l; omega
      · simp
theorem ZU : ∀ (l : List T), (XD l).length ≤ ndsL l
  | [] => by simp [XD, ndsL]
  | t :: l => by
    have h1 := T.Qj5 t
    have h2 := ZU l
    simp only [XD, ndsL, List.length_append]; omega
end
abbrev nT (s : List Int) (t : T) : T × List Int := T.mapS gNum s t
theorem QfH (s : List Int) (t : T) : (nT s t).2.length ≤ s.length + t.nds := by
  rw [nT, T.Qka s t []]
  have := Y7 s t.vars
  have := T.Qj5 t
  simp only
  omega
theorem Qei (l : List T) : (l.map T.nds).sum = ndsL l := by
  induction l with
  | nil => rfl
  | cons t l ih => rw [List.map_cons, List.sum_cons, ih]; rfl
def NIh (m : Nat) (t : T) : Prop := ∀ (h : AH) (s : List Int), m < h.length → s.length + t.nds ≤ 1000000 → FunW Tryz.prog (.fn (.func 97) [.mp m] []) [t.av] (hs h m (mapB s)) fun o h' => o = .ret ((nT s t).1).av ∧ h' = hs h m (mapB (nT s t).2)
theorem Qfy (m : Nat) (t : T) (hl : t.args.length ≤ 1000000) (ih : ∀ a ∈ t.args, NIh m a) (h : AH) (s : List Int) (hm : m < h.length) (hs0 : s.length + t.nds ≤ 1000000) :
    XG Tryz.prog 97 [.mp m, t.av] (hs h m (mapB s)) fun o h' => o = .ret ((nT s t).1).av ∧ h' = hs h m (mapB (nT s t).2) := by
  have eav : t.av = .agg [.i t.kind, .i t.int, .v (.string t.name), .sl 4 (avs t.args) none] := by cases t; rfl
  have en : nT s t = if t.kind = 1 then (.mk t.kind (gNum s t.int).1 t.name t.args, (gNum s t.int).2) else if t.kind = 2 then (.mk t.kind t.int t.name (Qbw gNum s t.args).1, (Qbw gNum s t.args).2) else (t, s) := T.Qkp gNum s t
  have f1 := fun x => Y1 h m x
  have f2 := fun x L => Qax (h := h) (i := m) x L
  have f3 := fun x L k => Qde (h := h) (i := m) x L k
  have f4 := fun x y L => Qa0 (h := h) (i := m) x y L
  have f5 := fun x y L k => QbS (h := h) (i := m) x y L k
  have f6 : ∀ s L, (hs h m (mapB s) ++ L)[m]? = some (.map (imap (ZC s))) := fun s L => Qga hm _ L
  have f7 : ∀ s s' L, (hs h m (mapB s) ++ L).set m (.map (imap (ZC s'))) = hs h m (mapB s') ++ L := fun s s' L => QfO hm _ _ L
  by_cases k1 : t.kind = 1
  · rw [if_pos k1] at en
    rw [k1] at eav
    by_cases hmem : t.int ∈ s
    · have hf : Qea (.int .i64) (.int .i64 t.int) (imap (ZC s)) = some (some (.i (plc s t.int : Nat))) := by rw [QcV, QfT, if_pos hmem]
      have e1 : ins s t.int = s := if_pos hmem
      rw [eav, en]
      refine Qg Tryz.func97 rfl Tryz.call97 Tryz.ntmps97 (congrArg Array.toList Tryz.results97) (by simp) ?_
      repeat (first | ((first | (with_reducible (first | refine Qa fun K E hK hE => ?_ | refine Qn fun K E hK hE => ?_))); simp -implicitDefEqProofs only [Qf, Qb, Qi, OpW, aop, undef, AS.ev, Qc, QV, Qq, Qm, QC, List.getD_cons_zero, List.getD_cons_succ, AV.Qj3, Qr, Q3, QD, Xt, List.all_cons, List.all_nil, QB, Qw, QN, QH, Bool.and_self, Bool.not_true, ↓reduceIte, List.length_cons, List.length_nil, Nat.reduceAdd, Nat.reduceLT, Nat.reduceLeDiff, Nat.reduceEqDiff, Nat.zero_add, Nat.add_zero, and_self, Ql, QI, QJ, Xb, QZ, aBin, ZD, QaN, hlen, happ, List.getElem?_cons_zero, List.getElem?_cons_succ, List.set_cons_zero, List.set_cons_succ, Option.map_some, List.cons_append, List.nil_append, List.take_succ_cons, List.take_zero, List.drop_succ_cons, List.drop_zero, QU, XM, beq_self_eq_true, Bool.false_eq_true, ti3, ti69, Xw, Ya, zi69, mi92, f1, f2, f3, f4, f5, f6, hf]) | (with_reducible (first | refine Qh fun K hK => ?_ | refine Qk ?_ | refine Qo ?_ | refine Qt ?_ | refine Qe ?_ | refine Qs ?_)) | ((with_reducible refine hK _ ?_); clear hK) | (refine Qj rfl ?_; simp only [↓reduceIte, Bool.false_eq_true]))
      simp -implicitDefEqProofs only [Qm, Qr, QD, ↓reduceIte, List.length_cons, List.length_nil, Nat.reduceAdd, Nat.reduceEqDiff, Nat.zero_add, and_self, QI, QJ, List.getElem?_cons_zero, List.getElem?_cons_succ, Option.some.injEq, ti69, f3, QO, Qp, Qv, exists_eq_left']
      refine Xi (YP _ _) (.keep ?_) ?_
      exact T.Qj6 _ (.mk _ _ _ _)
      exact ⟨by simp only [gNum, e1, k1]; rfl, by simp only [gNum, e1]⟩
    · have hf : Qea (.int .i64) (.int .i64 t.int) (imap (ZC s)) = some none := by rw [QcV, QfT, if_neg hmem]
      have e1 : ins s t.int = s ++ [t.int] := if_neg hmem
      have hu : updA (.int .i64) (.int .i64 t.int) (.i s.length) (imap (ZC s)) = some (imap (ZC (s ++ [t.int]))) := by
        rw [QgB _ _ _ (by rw [QfT, if_neg hmem]), QfC]
      rw [eav, en]
      refine Qg Tryz.func97 rfl Tryz.call97 Tryz.ntmps97 (congrArg Array.toList Tryz.results97) (by simp) ?_
      repeat (first | ((first | (with_reducible (first | refine Qa fun K E hK hE => ?_ | refine Qn fun K E hK hE => ?_))); simp -implicitDefEqProofs only [Qf, Qb, Qi, OpW, aop, undef, AS.ev, Qc, QV, Qq, Qm, QC, List.getD_cons_zero, List.getD_cons_succ, AV.Qj3, Qr, Q3, QD, Xt, List.all_cons, List.all_nil, QB, Qw, QN, QH, Bool.and_self, Bool.not_false, ↓reduceIte, List.length_cons, List.length_nil, Nat.reduceAdd, Nat.reduceLT, Nat.reduceLeDiff, Nat.reduceEqDiff, Nat.zero_add, Nat.add_zero, and_self, Ql, QI, QJ, Xb, QZ, aBin, ZD, aLen, QaN, Z2, hlen, happ, List.getElem?_cons_zero, List.getElem?_cons_succ, List.set_cons_zero, List.set_cons_succ, Option.map_some, List.cons_append, List.nil_append, List.take_succ_cons, List.take_zero, List.drop_succ_cons, List.drop_zero, QU, XM, goInt, beq_self_eq_true, Bool.false_eq_true, ti3, zi3, ti69, Xw, Ya, zi69, mi92, un92, f1, f2, f3, f4, f5, f6, f7, hf, hu, QbB]) | (with_reducible (first | refine Qh fun K hK => ?_ | refine Qk ?_ | refine Qo ?_ | refine Qe ?_ | refine Qs ?_)) | ((with_reducible refine hK _ ?_); clear hK) | (refine Qj rfl ?_; simp only [↓reduceIte]))
      simp -implicitDefEqProofs only [Qm, Qr, QD, ↓reduceIte, List.length_cons, List.length_nil, Nat.reduceAdd, Nat.reduceEqDiff, Nat.zero_add, and_self, QI, QJ, List.getElem?_cons_zero, List.getElem?_cons_succ, Option.some.injEq, ti69, f3, QO, Qp, Qv, exists_eq_left']
      refine Xi (YP _ _) (.keep ?_) ?_
      exact T.Qj6 _ (.mk _ _ _ _)
      exact ⟨by simp only [gNum, e1, k1, Qda [] hmem]; rfl, by simp only [gNum, e1]⟩
  · rw [if_neg k1] at en
    have z1 : (t.kind == 1) = false := by simpa using k1
    by_cases k2 : t.kind = 2
    · rw [if_pos k2] at en
      have hnd : s.length + ndsL t.args ≤ 1000000 := by cases t; simp only [T.nds] at hs0; simp only [T.args]; omega
      rw [k2] at eav
      have z2 : ((2 : Int) == 1) = false := by decide
      have c := QaL T.av (.fn (.func 97) [.mp m] []) QfW Qem nT T.nds QfH t.args hl m (h ++ [AB.cells 69 4 [t.av], AB.cells 69 4 [.agg [.i 0, .i 0, .v (.string { data := #[] }), .v (.slice none 0 0)]]]) (by rw [List.length_append]; omega) s (by rw [Qei]; exact hnd) ih
      rw [← Qdp, ← Qdp, ← Qam, ZQ hm, ZQ hm, eav] at c
      rw [eav, en]
      refine Qg Tryz.func97 rfl Tryz.call97 Tryz.ntmps97 (congrArg Array.toList Tryz.results97) (by simp) ?_
      repeat (first | ((first | (with_reducible (first | refine Qa fun K E hK hE => ?_ | refine Qn fun K E hK hE => ?_ | refine FunW.ret (FunW.call c) ?_))); simp -implicitDefEqProofs only [Qf, Qb, Qi, OpW, QW, aop, undef, AS.ev, Qc, QV, Qq, Qm, QC, List.getD_cons_zero, List.getD_cons_succ, AV.Qj3, Qr, Xp, QD, XT, List.all_cons, List.all_nil, QB, Qw, QN, QH, Bool.and_self, ↓reduceIte, List.length_cons, List.length_nil, Nat.reduceAdd, Nat.reduceLT, Nat.reduceLeDiff, Nat.reduceEqDiff, Nat.zero_add, Nat.add_zero, and_self, Ql, QI, QJ, Xb, QZ, aBin, hlen, happ, List.getElem?_cons_zero, List.getElem?_cons_succ, List.set_cons_zero, List.set_cons_succ, Option.map_some, List.map_cons, List.map_nil, List.cons_append, List.nil_append, List.append_nil, List.take_succ_cons, List.take_zero, List.drop_succ_cons, List.drop_zero, QU, beq_self_eq_true, Bool.false_eq_true, ti3, ti44, ti69, Xw, XL, zi69, f1, f2, f3, f4, f5, z2]) | (with_reducible (first | refine Qh fun K hK => ?_ | refine Qk ?_ | refine Qo ?_ | refine Qe ?_ | refine Qs ?_)) | ((with_reducible refine hK _ ?_); clear hK) | (refine Qj rfl ?_; simp only [↓reduceIte, Bool.false_eq_true]))
      simp -implicitDefEqProofs only [Qm, Qr, QD, ↓reduceIte, List.length_cons, List.length_nil, Nat.reduceAdd, Nat.reduceEqDiff, Nat.zero_add, and_self, QI, QJ, List.getElem?_cons_zero, List.getElem?_cons_succ, Option.some.injEq, ti69, f3, QO, Qp, Qv, exists_eq_left']
      refine Xi (YP _ _) (.keep ?_) ?_
      exact T.Qj6 _ (.mk _ _ _ _)
      exact ⟨by simp only [k2]; rfl, rfl⟩
    · rw [if_neg k2] at en
      have z2 : (t.kind == 2) = false := by simpa using k2
      rw [eav, en]
      refine Qg Tryz.func97 rfl Tryz.call97 Tryz.ntmps97 (congrArg Array.toList Tryz.results97) (by simp) ?_
      repeat (first | (((with_reducible refine Qa fun K E hK hE => ?_)); simp -implicitDefEqProofs only [Qf, Qb, Qi, OpW, aop, undef, AS.ev, Qc, QV, Qq, Qm, QC, List.getD_cons_zero, List.getD_cons_succ, AV.Qj3, Qr, QD, List.all_cons, List.all_nil, QB, Qw, QN, QH, Bool.and_self, ↓reduceIte, List.length_cons, List.length_nil, Nat.reduceAdd, Nat.reduceLT, Nat.reduceEqDiff, Nat.zero_add, Nat.add_zero, and_self, Ql, QI, QJ, Xb, QZ, aBin, hlen, happ, List.getElem?_cons_zero, List.getElem?_cons_succ, List.set_cons_zero, List.set_cons_succ, Option.map_some, List.cons_append, List.nil_append, QU, ti3, ti69, Xw, zi69, f1, f2, f3, f5, z1, z2]) | (with_reducible (first | refine Qh fun K hK => ?_ | refine Qk ?_ | refine Qo ?_ | refine Qt ?_ | refine Qe ?_ | refine Qs ?_)) | ((with_reducible refine hK _ ?_); clear hK) | (refine Qj rfl ?_; simp only [↓reduceIte, Bool.false_eq_true]))
      simp -implicitDefEqProofs only [Qm, Qr, QD, ↓reduceIte, List.length_cons, List.length_nil, Nat.reduceAdd, Nat.reduceEqDiff, Nat.zero_add, and_self, QI, QJ, List.getElem?_cons_zero, List.getElem?_cons_succ, Option.some.injEq, ti69, f3, QO, Qp, Qv, exists_eq_left']
      refine Xi (YP _ _) (.keep ?_) ?_
      exact T.Qj6 _ (.mk _ _ _ _)
      exact ⟨by rw [← eav], rfl⟩
mutual
theorem T.Qki : ∀ (t : T), t.nds ≤ 1000000 → ∀ m, NIh m t
  | .mk k i n l, hn, m => fun h s hm hs0 => by
    refine FunW.fn ?_
    have hnl : ndsL l ≤ 1000000 := by simp only [T.nds] at hn; omega
    exact Qfy m (.mk k i n l) (by have := XA l; simp only [T.args]; omega) (Qbl l hnl m) h s hm hs0
theorem Qbl : ∀ (l : List T), ndsL l ≤ 1000000 → ∀ m, ∀ a ∈ l, NIh m a
  | [], _, _, a, ha => by cases ha
  | t :: l, hn, m, a, ha => by
    simp only [ndsL] at hn
    have h1 := T.Qki t (by omega) m
    have h2 := Qbl l (by omega) m
    rcases List.mem_cons.1 ha with e | e
    · rw [e]; exact h1
    · exact h2 a e
end
def nG (s : List Int) (g : G) : G × List Int := ({ g with args := (Qbw gNum s g.args).1 }, (Qbw gNum s g.args).2)
def G.nds (g : G) : Nat := ndsL g.args
theorem QbJ (s : List Int) (g : G) : (nG s g).2.length ≤ s.length + g.nds := by
  rw [nG, Qa2 s g.args []]
  have := Y7 s (XD g.args)
  have := ZU g.args
  simp only [G.nds]
  omega
theorem QeA (m : Nat) (g : G) (hn : g.nds ≤ 1000000) (h : AH) (s : List Int) (hm : m < h.length) (hs0 : s.length + g.nds ≤ 1000000) :
    XG Tryz.prog 48 [.mp m, g.atom] (hs h m (mapB s)) fun o h' => o = .ret ((nG s g).1).atom ∧ h' = hs h m (mapB (nG s g).2) := by
  have f1 := fun x => Y1 h m x
  have f2 := fun x L => Qax (h := h) (i := m) x L
  have f3 := fun x L k => Qde (h := h) (i := m) x L k
  have f4 := fun x y L => Qa0 (h := h) (i := m) x y L
  have f5 := fun x y L k => QbS (h := h) (i := m) x y L k
  have c := QaL T.av (.fn (.func 97) [.mp m] []) QfW Qem nT T.nds QfH g.args (by have := XA g.args; simp only [G.nds] at hn; omega) m (h ++ [AB.cells 66 2 [g.atom], AB.cells 66 2 [.agg [.v (.string { data := #[] }), .v (.slice none 0 0)]]]) (by rw [List.length_append]; omega) s (by rw [Qei]; exact hs0) (Qbl g.args hn m)
  rw [← Qdp, ← Qdp, ← Qam, ZQ hm, ZQ hm] at c
  refine Qg Tryz.func48 rfl Tryz.call48 Tryz.ntmps48 (congrArg Array.toList Tryz.results48) (by simp) ?_
  repeat (first | ((first | (with_reducible (first | refine Qa fun K E hK hE => ?_ | refine FunW.ret (FunW.call c) ?_))); simp -implicitDefEqProofs only [Qf, Qb, Qi, OpW, QW, aop, undef, AS.ev, Qc, QV, Qm, QC, List.getD_cons_zero, List.getD_cons_succ, AV.Qj3, Qr, Xp, QD, XT, List.all_cons, List.all_nil, Qw, QN, QH, Bool.and_self, ↓reduceIte, List.length_cons, List.length_nil, Nat.reduceAdd, Nat.reduceLT, Nat.reduceLeDiff, Nat.reduceEqDiff, Nat.zero_add, and_self, Ql, QI, QJ, Xb, QZ, hlen, happ, List.getElem?_cons_zero, List.getElem?_cons_succ, List.set_cons_zero, List.set_cons_succ, Option.map_some, List.map_cons, List.map_nil, List.cons_append, List.nil_append, List.append_nil, List.take_succ_cons, List.take_zero, List.drop_succ_cons, List.drop_zero, Bool.false_eq_true, ti44, ti66, Zi, zi66, f1, f2, f3, f4, f5, XI, Qaa]) | (with_reducible refine Qo ?_) | ((with_reducible refine hK _ ?_); clear hK))
  simp -implicitDefEqProofs only [Qm, Qr, QD, ↓reduceIte, List.length_cons, List.length_nil, Nat.reduceAdd, Nat.reduceEqDiff, Nat.zero_add, and_self, QI, QJ, List.getElem?_cons_zero, List.getElem?_cons_succ, Option.some.injEq, ti66, f3, QO, Qp, Qv, exists_eq_left']
  refine Xi (YP _ _) (.keep ?_) ?_
  · exact .agg _ (ZE _ (nG s g).1)
  · exact ⟨rfl, rfl⟩
theorem Qe2 (m : Nat) (g : G) (hn : g.nds ≤ 1000000) (h : AH) (s : List Int) (hm : m < h.length) (hs0 : s.length + g.nds ≤ 1000000) :
    XG Tryz.prog 50 [.mp m, g.goal] (hs h m (mapB s)) fun o h' => o = .ret ((nG s g).1).goal ∧ h' = hs h m (mapB (nG s g).2) := by
  have f1 := fun x => Y1 h m x
  have f2 := fun x L => Qax (h := h) (i := m) x L
  have f3 := fun x L k => Qde (h := h) (i := m) x L k
  have f4 := fun x y L => Qa0 (h := h) (i := m) x y L
  have f5 := fun x y L k => QbS (h := h) (i := m) x y L k
  have c := QaL T.av (.fn (.func 97) [.mp m] []) QfW Qem nT T.nds QfH g.args (by have := XA g.args; simp only [G.nds] at hn; omega) m (h ++ [AB.cells 53 3 [g.goal], AB.cells 53 3 [.agg [.i 0, .v (.string { data := #[] }), .v (.slice none 0 0)]]]) (by rw [List.length_append]; omega) s (by rw [Qei]; exact hs0) (Qbl g.args hn m)
  rw [← Qdp, ← Qdp, ← Qam, ZQ hm, ZQ hm] at c
  refine Qg Tryz.func50 rfl Tryz.call50 Tryz.ntmps50 (congrArg Array.toList Tryz.results50) (by simp) ?_
  repeat (first | ((first | (with_reducible (first | refine Qa fun K E hK hE => ?_ | refine FunW.ret (FunW.call c) ?_))); simp -implicitDefEqProofs only [Qf, Qb, Qi, OpW, QW, aop, undef, AS.ev, Qc, QV, Qm, QC, List.getD_cons_zero, List.getD_cons_succ, AV.Qj3, Qr, Xp, QD, XT, List.all_cons, List.all_nil, QB, Qw, QN, QH, Bool.and_self, ↓reduceIte, List.length_cons, List.length_nil, Nat.reduceAdd, Nat.reduceLT, Nat.reduceLeDiff, Nat.reduceEqDiff, Nat.zero_add, and_self, Ql, QI, QJ, Xb, QZ, hlen, happ, List.getElem?_cons_zero, List.getElem?_cons_succ, List.set_cons_zero, List.set_cons_succ, Option.map_some, List.map_cons, List.map_nil, List.cons_append, List.nil_append, List.append_nil, List.take_succ_cons, List.take_zero, List.drop_succ_cons, List.drop_zero, Bool.false_eq_true, ti44, ti53, Yg, zi53, f1, f2, f3, f4, f5, Q2, Y6]) | (with_reducible refine Qo ?_) | ((with_reducible refine hK _ ?_); clear hK))
  simp -implicitDefEqProofs only [Qm, Qr, QD, ↓reduceIte, List.length_cons, List.length_nil, Nat.reduceAdd, Nat.reduceEqDiff, Nat.zero_add, and_self, QI, QJ, List.getElem?_cons_zero, List.getElem?_cons_succ, Option.some.injEq, ti53, f3, QO, Qp, Qv, exists_eq_left']
  refine Xi (YP _ _) (.keep ?_) ?_
  · exact .agg _ (ZS _ (nG s g).1)
  · exact ⟨rfl, rfl⟩
end Go.Proofs.YtenheconhibonaaGreatDoor.Ab
set_option linter.unusedSimpArgs false
set_option linter.unusedVariables false
set_option maxHeartbeats 4000000
set_option maxRecDepth 4000
namespace Go.Proofs.YtenheconhibonaaGreatDoor.Ab
open Go.Proofs
theorem Z8 {X : Type} (g : List Int → X → X × List Int) (w : X → Nat) (hw : ∀ s x, (g s x).2.length ≤ s.length + w x) : ∀ (l : List X) (s : List Int), (XU g s l).2.length ≤ s.length + (l.map w).sum
  | [], s => by simp [XU]
  | x :: l, s => by
    rw [XU, List.map_cons, List.sum_cons]
    have := Z8 g w hw l (g s x).2
    have := hw s x
    simp only
    omega
def wG (l : List G) : Nat := (l.map G.nds).sum
theorem QiA : ∀ {l : List G} {g : G}, g ∈ l → g.nds ≤ wG l
  | x :: l, g, h => by
    simp only [wG, List.map_cons, List.sum_cons]
    rcases List.mem_cons.1 h with rfl | h
    · omega
    · have := QiA h; simp only [wG] at this; omega
def numR (r : Rl) : Rl :=
  ⟨r.name, (XU nG [] r.keep).1, (XU nG (XU nG [] r.keep).2 r.remove).1, (XU nG (XU nG (XU nG [] r.keep).2 r.remove).2 r.guard).1,
    (XU nG (XU nG (XU nG (XU nG [] r.keep).2 r.remove).2 r.guard).2 r.body).1, (XU nG (XU nG (XU nG (XU nG [] r.keep).2 r.remove).2 r.guard).2 r.body).2.length⟩
theorem Qgn (n : Nat) (r : Rl) : Below n r.av := by
  refine .agg _ fun a ha => ?_
  simp only [List.mem_cons, List.not_mem_nil, or_false] at ha
  rcases ha with rfl | rfl | rfl | rfl | rfl | rfl
  · exact .v _
  · exact ZV _ n 2 (ZE n) _
  · exact ZV _ n 2 (ZE n) _
  · exact ZV _ n 3 (ZS n) _
  · exact ZV _ n 3 (ZS n) _
  · exact .v _
theorem ZI (r : Rl) (h1 : r.keep.length ≤ 100000) (h2 : r.remove.length ≤ 100000) (h3 : r.guard.length ≤ 100000) (h4 : r.body.length ≤ 100000) (hw : wG r.keep + wG r.remove + wG r.guard + wG r.body ≤ 1000000) :
    Pure Tryz.prog 13 [r.av] (numR r).av := by
  intro h
  obtain ⟨s1, es1⟩ : ∃ s, s = (XU nG [] r.keep).2 := ⟨_, rfl⟩
  obtain ⟨s2, es2⟩ : ∃ s, s = (XU nG s1 r.remove).2 := ⟨_, rfl⟩
  obtain ⟨s3, es3⟩ : ∃ s, s = (XU nG s2 r.guard).2 := ⟨_, rfl⟩
  obtain ⟨s4, es4⟩ : ∃ s, s = (XU nG s3 r.body).2 := ⟨_, rfl⟩
  obtain ⟨l1, el1⟩ : ∃ s, s = (XU nG [] r.keep).1 := ⟨_, rfl⟩
  obtain ⟨l2, el2⟩ : ∃ s, s = (XU nG s1 r.remove).1 := ⟨_, rfl⟩
  obtain ⟨l3, el3⟩ : ∃ s, s = (XU nG s2 r.guard).1 := ⟨_, rfl⟩
  obtain ⟨l4, el4⟩ : ∃ s, s = (XU nG s3 r.body).1 := ⟨_, rfl⟩
  have en : numR r = ⟨r.name, l1, l2, l3, l4, s4.length⟩ := by rw [numR, ← es1, ← es2, ← es3, ← es4, ← el1, ← el2, ← el3, ← el4]
  have w1 : s1.length ≤ wG r.keep := by rw [es1]; have := Z8 nG G.nds QbJ r.keep []; simpa [wG] using this
  have w2 : s2.length ≤ s1.length + wG r.remove := by rw [es2]; exact Z8 nG G.nds QbJ r.remove s1
  have w3 : s3.length ≤ s2.length + wG r.guard := by rw [es3]; exact Z8 nG G.nds QbJ r.guard s2
  have w4 : s4.length ≤ s3.length + wG r.body := by rw [es4]; exact Z8 nG G.nds QbJ r.body s3
  obtain ⟨zv, hz⟩ : ∃ z, z = AB.cells 25 6 [.agg [.v (.string { data := #[] }), .v (.slice none 0 0), .v (.slice none 0 0), .v (.slice none 0 0), .v (.slice none 0 0), .v (.int .i64 0)]] := ⟨_, rfl⟩
  have e : ∀ x y z, hs (h ++ [x, y, AB.dead]) (h.length + 2) z = h ++ [x, y, z] := fun x y z => by simp [hs]
  have hlt : ∀ x y : AB, h.length + 2 < (h ++ [x, y, AB.dead]).length := fun x y => by simp
  have cA := fun (l : List G) (hl : l.length ≤ 100000) (s : List Int) (hs0 : s.length + wG l ≤ 1000000) x => Qfp G.atom (.fn (.func 48) [.mp (h.length + 2)] []) Qd2 ZE nG G.nds QbJ l (by omega) (h.length + 2) (h ++ [x, zv, AB.dead]) (hlt _ _) s hs0
    (fun g hg h s hm hs1 => FunW.fn (QeA _ g (by have := QiA hg; omega) h s hm hs1))
  have cG := fun (l : List G) (hl : l.length ≤ 100000) (s : List Int) (hs0 : s.length + wG l ≤ 1000000) x => Qfa G.goal (.fn (.func 50) [.mp (h.length + 2)] []) QcG ZS nG G.nds QbJ l (by omega) (h.length + 2) (h ++ [x, zv, AB.dead]) (hlt _ _) s hs0
    (fun g hg h s hm hs1 => FunW.fn (Qe2 _ g (by have := QiA hg; omega) h s hm hs1))
  have c1 := cA r.keep h1 [] (by simp only [List.length_nil]; omega) (.cells 25 6 [.agg [.v (.string r.name), .sl 2 (vs G.atom r.keep) none, .sl 2 (vs G.atom r.remove) none, .sl 3 (vs G.goal r.guard) none, .sl 3 (vs G.goal r.body) none, .v (.int .i64 r.vars)]])
  have c2 := cA r.remove h2 s1 (by omega) (.cells 25 6 [.agg [.v (.string r.name), .sl 2 (vs G.atom l1) none, .sl 2 (vs G.atom r.remove) none, .sl 3 (vs G.goal r.guard) none, .sl 3 (vs G.goal r.body) none, .v (.int .i64 r.vars)]])
  have c3 := cG r.guard h3 s2 (by omega) (.cells 25 6 [.agg [.v (.string r.name), .sl 2 (vs G.atom l1) none, .sl 2 (vs G.atom l2) none, .sl 3 (vs G.goal r.guard) none, .sl 3 (vs G.goal r.body) none, .v (.int .i64 r.vars)]])
  have c4 := cG r.body h4 s3 (by omega) (.cells 25 6 [.agg [.v (.string r.name), .sl 2 (vs G.atom l1) none, .sl 2 (vs G.atom l2) none, .sl 3 (vs G.goal l3) none, .sl 3 (vs G.goal r.body) none, .v (.int .i64 r.vars)]])
  rw [e, e, ← es1, ← el1, show mapB [] = .map [] from rfl, hz] at c1
  rw [e, e, ← es2, ← el2, hz] at c2
  rw [e, e, ← es3, ← el3, hz] at c3
  rw [e, e, ← es4, ← el4, hz] at c4
  have mb : mapB s4 = .map (imap (ZC s4)) := rfl
  rw [en]
  refine Qg Tryz.func13 rfl Tryz.call13 Tryz.ntmps13 (congrArg Array.toList Tryz.results13) (by simp) ?_
  rw [show r.av = AV.agg [.v (.string r.name), .sl 2 (vs G.atom r.keep) none, .sl 2 (vs G.atom r.remove) none, .sl 3 (vs G.goal r.guard) none, .sl 3 (vs G.goal r.body) none, .v (.int .i64 r.vars)] from rfl]
  repeat (first | ((first | (with_reducible (first | refine Qa fun K E hK hE => ?_ | refine FunW.ret (FunW.call c1) ?_ | refine FunW.ret (FunW.call c2) ?_ | refine FunW.ret (FunW.call c3) ?_ | refine FunW.ret (FunW.call c4) ?_))); simp -implicitDefEqProofs only [Qf, Qb, Qi, OpW, QW, aop, undef, AS.ev, Qc, QV, Qm, QC, List.getD_cons_zero, AV.Qj3, Qr, Q3, Xp, QD, Xt, XT, List.all_cons, List.all_nil, QB, Qw, QN, QH, Bool.and_self, ↓reduceIte, List.length_cons, List.length_nil, Nat.reduceAdd, Nat.reduceLT, Nat.reduceLeDiff, Nat.reduceEqDiff, Nat.zero_add, and_self, Ql, QI, QJ, Xb, QZ, aLen, QX, hget, X0, hset, hlen, happ, List.getElem?_cons_zero, List.getElem?_cons_succ, List.set_cons_zero, List.set_cons_succ, Option.map_some, Option.map_none, List.map_cons, List.map_nil, List.cons_append, List.nil_append, List.append_nil, List.take_succ_cons, List.take_zero, List.drop_succ_cons, List.drop_zero, goInt, Bool.false_eq_true, ti3, ti22, ti23, ti25, XY, X1, X5, X9, ZT, zi25, un92, mb, QbB]) | (with_reducible refine Qo ?_) | ((with_reducible refine hK _ ?_); clear hK))
  simp -implicitDefEqProofs only [Qm, Qr, QD, ↓reduceIte, List.length_cons, List.length_nil, Nat.reduceAdd, Nat.reduceEqDiff, Nat.zero_add, and_self, QI, QJ, hget, List.getElem?_cons_zero, List.getElem?_cons_succ, Option.some.injEq, ti25, QO, Qp, Qv, exists_eq_left']
  exact Qd (htake _ _) (.keep (Qgn _ ⟨r.name, l1, l2, l3, l4, s4.length⟩)) ⟨rfl, rfl⟩
end Go.Proofs.YtenheconhibonaaGreatDoor.Ab
set_option linter.unusedSimpArgs false
set_option linter.unusedVariables false
set_option maxHeartbeats 4000000
set_option maxRecDepth 4000
namespace Go.Proofs.YtenheconhibonaaGreatDoor.Ab
open Go.Proofs
def Qed : List G → Bool
  | [g] => g.op == 1
  | _ => false
theorem Qcq {l : List G} (h : l.length = 1) (h0 : 0 < l.length) : Qed l = (l[0].op == 1) := by
  match l, h with
  | [g], _ => rfl
def preR (r : Rl) : Bool := (YH r.name || Zj r.name) && (decide (0 < r.keep.length + r.remove.length ∧ r.keep.length + r.remove.length ≤ 4) && (decide (r.guard.length ≤ 12 ∧ r.body.length ≤ 12) && !Qed r.body))
def XQ (r : Rl) : Bool := preR r && (r.keep.all Xg && (r.remove.all Xg && (r.guard.all Q8 && r.body.all Q8)))
theorem QdT (r : Rl) (h1 : r.keep.length ≤ 100000) (h2 : r.remove.length ≤ 100000) (h3 : r.guard.length ≤ 100000) (h4 : r.body.length ≤ 100000) :
    Pure Tryz.prog 33 [r.av] (.b (XQ r)) := by
  intro h
  have er : r.av = AV.agg [.v (.string r.name), .sl 2 (vs G.atom r.keep) none, .sl 2 (vs G.atom r.remove) none, .sl 3 (vs G.goal r.guard) none, .sl 3 (vs G.goal r.body) none, .v (.int .i64 r.vars)] := rfl
  have cn : Pure Tryz.prog 55 [.v (.string r.name)] (.b (Zj r.name)) := QaW r.name
  have hadd : IntKind.i64.wrap ((r.keep.length : Int) + r.remove.length) = ((r.keep.length + r.remove.length : Nat) : Int) := by rw [XZ (by omega)]; omega
  obtain ⟨n, en⟩ : ∃ n : Nat, n = r.keep.length + r.remove.length := ⟨_, rfl⟩
  rw [← en] at hadd
  refine Qg Tryz.func33 rfl Tryz.call33 Tryz.ntmps33 (congrArg Array.toList Tryz.results33) (by simp) ?_
  rw [er]
  iterate 4 (try (first | (((with_reducible refine Qa fun K E hK hE => ?_)); simp -implicitDefEqProofs only [Qf, Qb, Qi, OpW, aop, undef, AS.ev, Qc, Qz, Qm, QC, List.getD_cons_zero, AV.Qj3, Qr, List.all_cons, List.all_nil, QB, Qw, QH, Bool.and_self, ↓reduceIte, List.length_cons, List.length_nil, Nat.reduceAdd, Nat.reduceLT, Nat.reduceEqDiff, Nat.zero_add, Ql, QI, QJ, aBin, aLen, QX, List.getElem?_cons_zero, List.getElem?_cons_succ, Option.map_some, Xj, goInt, ti22, un22, XY, X1, QF, hadd]) | ((with_reducible refine hK _ ?_); clear hK)))
  refine X2 (fun s => preR r = true ∧ s.tm 1 = .ptr h.length 0 0 ∧ s.h = h ++ [.cells 25 6 [.agg [.v (.string r.name), .sl 2 (vs G.atom r.keep) none, .sl 2 (vs G.atom r.remove) none, .sl 3 (vs G.goal r.guard) none, .sl 3 (vs G.goal r.body) none, .v (.int .i64 r.vars)]]]) ?_ ?_
  · rintro ⟨tm, hp⟩ ⟨hpr, t1, hh⟩
    dsimp only at t1 hh
    subst hh
    have a1 := fun h => Qe9 G.atom Xg (.fn (.func 80) [] []) Qd2 r.keep (by omega) h (fun g _ h => FunW.call (Zt g h))
    have a2 := fun h => Qe9 G.atom Xg (.fn (.func 80) [] []) Qd2 r.remove (by omega) h (fun g _ h => FunW.call (Zt g h))
    have a3 := fun h => QcC G.goal Q8 (.fn (.func 61) [] []) QcG r.guard (by omega) h (fun g _ h => FunW.call (Zu g h))
    have a4 := fun h => QcC G.goal Q8 (.fn (.func 61) [] []) QcG r.body (by omega) h (fun g _ h => FunW.call (Zu g h))
    obtain ⟨b1, w1⟩ : ∃ b, b = (r.keep.all Xg) := ⟨_, rfl⟩
    rw [← w1] at a1
    cases b1
    · have v1 : (r.keep.all Xg) = false := w1.symm
      have R : XQ r = false := by rw [XQ, hpr, v1]; rfl
      repeat (first | ((first | (with_reducible (first | refine Qa fun K E hK hE => ?_ | refine FunW.ret (FunW.call (a1 _)) ?_))); simp -implicitDefEqProofs only [Qf, Qb, Qi, OpW, QW, aop, undef, AS.ev, Qc, Qz, Qm, Qr, ↓reduceIte, Nat.reduceLT, Nat.reduceEqDiff, Nat.zero_add, Ql, QI, QJ, QX, List.getElem?_cons_zero, List.getElem?_cons_succ, Option.map_some, Option.bind_some, List.getElem?_toArray, List.map_cons, List.map_nil, Bool.false_eq_true, beq_true, ti22, XY, t1]) | (with_reducible refine Qo ?_) | ((with_reducible refine hK _ ?_); clear hK))
      simp only [QO, Qp, Qv, upd, ↓reduceIte, Option.some.injEq, exists_eq_left']; first | refine Qd (htake _ _) (.keep (.v _)) ⟨by rw [R], rfl⟩ | refine Qd List.take_length (.keep (.v _)) ⟨by rw [R], rfl⟩
    have v1 : (r.keep.all Xg) = true := w1.symm
    obtain ⟨b2, w2⟩ : ∃ b, b = (r.remove.all Xg) := ⟨_, rfl⟩
    rw [← w2] at a2
    cases b2
    · have v2 : (r.remove.all Xg) = false := w2.symm
      have R : XQ r = false := by rw [XQ, hpr, v1, v2]; rfl
      repeat (first | ((first | (with_reducible (first | refine Qa fun K E hK hE => ?_ | refine FunW.ret (FunW.call (a1 _)) ?_ | refine FunW.ret (FunW.call (a2 _)) ?_))); simp -implicitDefEqProofs only [Qf, Qb, Qi, OpW, QW, aop, undef, AS.ev, Qc, Qz, Qm, Qr, ↓reduceIte, Nat.reduceLT, Nat.reduceEqDiff, Nat.zero_add, Ql, QI, QJ, QX, List.getElem?_cons_zero, List.getElem?_cons_succ, Option.map_some, Option.bind_some, List.getElem?_toArray, List.map_cons, List.map_nil, beq_self_eq_true, Bool.false_eq_true, beq_true, ti22, XY, X1, t1]) | (with_reducible refine Qo ?_) | ((with_reducible refine hK _ ?_); clear hK))
      simp only [QO, Qp, Qv, upd, ↓reduceIte, Option.some.injEq, exists_eq_left']; first | refine Qd (htake _ _) (.keep (.v _)) ⟨by rw [R], rfl⟩ | refine Qd List.take_length (.keep (.v _)) ⟨by rw [R], rfl⟩
    have v2 : (r.remove.all Xg) = true := w2.symm
    obtain ⟨b3, w3⟩ : ∃ b, b = (r.guard.all Q8) := ⟨_, rfl⟩
    rw [← w3] at a3
    cases b3
    · have v3 : (r.guard.all Q8) = false := w3.symm
      have R : XQ r = false := by rw [XQ, hpr, v1, v2, v3]; rfl
      repeat (first | ((first | (with_reducible (first | refine Qa fun K E hK hE => ?_ | refine FunW.ret (FunW.call (a1 _)) ?_ | refine FunW.ret (FunW.call (a2 _)) ?_ | refine FunW.ret (FunW.call (a3 _)) ?_))); simp -implicitDefEqProofs only [Qf, Qb, Qi, OpW, QW, aop, undef, AS.ev, Qc, Qz, Qm, Qr, ↓reduceIte, Nat.reduceLT, Nat.reduceEqDiff, Nat.zero_add, Ql, QI, QJ, QX, List.getElem?_cons_zero, List.getElem?_cons_succ, Option.map_some, Option.bind_some, List.getElem?_toArray, List.map_cons, List.map_nil, beq_self_eq_true, Bool.false_eq_true, beq_true, ti22, ti23, XY, X1, X5, t1]) | (with_reducible refine Qo ?_) | ((with_reducible refine hK _ ?_); clear hK))
      simp only [QO, Qp, Qv, upd, ↓reduceIte, Option.some.injEq, exists_eq_left']; first | refine Qd (htake _ _) (.keep (.v _)) ⟨by rw [R], rfl⟩ | refine Qd List.take_length (.keep (.v _)) ⟨by rw [R], rfl⟩
    have v3 : (r.guard.all Q8) = true := w3.symm
    obtain ⟨b4, w4⟩ : ∃ b, b = (r.body.all Q8) := ⟨_, rfl⟩
    rw [← w4] at a4
    cases b4
    · have v4 : (r.body.all Q8) = false := w4.symm
      have R : XQ r = false := by rw [XQ, hpr, v1, v2, v3, v4]; rfl
      repeat (first | ((first | (with_reducible (first | refine Qa fun K E hK hE => ?_ | refine FunW.ret (FunW.call (a1 _)) ?_ | refine FunW.ret (FunW.call (a2 _)) ?_ | refine FunW.ret (FunW.call (a3 _)) ?_ | refine FunW.ret (FunW.call (a4 _)) ?_))); simp -implicitDefEqProofs only [Qf, Qb, Qi, OpW, QW, aop, AS.ev, Qc, Qm, Qr, ↓reduceIte, Nat.reduceLT, Nat.reduceEqDiff, Nat.zero_add, Ql, QI, QJ, QX, List.getElem?_cons_zero, List.getElem?_cons_succ, Option.map_some, Option.bind_some, List.getElem?_toArray, List.map_cons, List.map_nil, beq_self_eq_true, ti22, ti23, XY, X1, X5, X9, t1]) | (with_reducible refine Qo ?_) | ((with_reducible refine hK _ ?_); clear hK))
      simp only [QO, Qp, Qv, upd, ↓reduceIte, Option.some.injEq, exists_eq_left']; first | refine Qd (htake _ _) (.keep (.v _)) ⟨by rw [R], rfl⟩ | refine Qd List.take_length (.keep (.v _)) ⟨by rw [R], rfl⟩
    have v4 : (r.body.all Q8) = true := w4.symm
    have R : XQ r = true := by rw [XQ, hpr, v1, v2, v3, v4]; rfl
    repeat (first | ((first | (with_reducible (first | refine Qa fun K E hK hE => ?_ | refine FunW.ret (FunW.call (a1 _)) ?_ | refine FunW.ret (FunW.call (a2 _)) ?_ | refine FunW.ret (FunW.call (a3 _)) ?_ | refine FunW.ret (FunW.call (a4 _)) ?_))); simp -implicitDefEqProofs only [Qf, Qb, Qi, OpW, QW, aop, AS.ev, Qc, Qm, Qr, ↓reduceIte, Nat.reduceLT, Nat.reduceEqDiff, Nat.zero_add, Ql, QI, QJ, QX, List.getElem?_cons_zero, List.getElem?_cons_succ, Option.map_some, Option.bind_some, List.getElem?_toArray, List.map_cons, List.map_nil, beq_self_eq_true, ti22, ti23, XY, X1, X5, X9, t1]) | (with_reducible refine Qo ?_) | ((with_reducible refine hK _ ?_); clear hK))
    simp only [QO, Qp, Qv, upd, ↓reduceIte, Option.some.injEq, exists_eq_left']; first | refine Qd (htake _ _) (.keep (.v _)) ⟨by rw [R], rfl⟩ | refine Qd List.take_length (.keep (.v _)) ⟨by rw [R], rfl⟩
  · have ee : (r.name.toList == ({ data := #[] } : ByteArray).toList) = YH r.name := rfl
    have hgg : ∀ k : Nat, ((r.guard.length : Int) > 12) = (12 < r.guard.length) := fun _ => by rw [eq_iff_iff]; omega
    cases ce : YH r.name
    · rw [ce] at ee
      cases cr : Zj r.name
      · have R : XQ r = false := by rw [XQ, preR, ce, cr]; rfl
        rw [cr] at cn
        repeat (first | ((first | (with_reducible (first | refine Qa fun K E hK hE => ?_ | refine Qy cn ?_))); simp -implicitDefEqProofs only [Qf, Qb, Qi, OpW, QW, aop, AS.ev, Qc, Qz, QM, Qm, Qr, Bool.not_false, ↓reduceIte, Nat.reduceLT, Nat.reduceEqDiff, Nat.add_zero, Ql, QI, QJ, aBin, QX, List.getElem?_cons_zero, List.getElem?_cons_succ, Option.map_some, Option.bind_some, List.getElem?_toArray, List.map_cons, List.map_nil, XM, YM, beq_self_eq_true, ti9, XX, ee]) | (with_reducible (first | refine Qh fun K hK => ?_ | refine Qk ?_ | refine Qo ?_ | refine Qt ?_ | refine Qe ?_ | refine QA ?_ | refine QE ?_)) | ((with_reducible refine hK _ ?_); clear hK) | (refine Qj rfl ?_; simp only [↓reduceIte]))
        simp only [QO, Qp, Qv, upd, ↓reduceIte, Option.some.injEq, exists_eq_left']; first | refine Qd (htake _ _) (.keep (.v _)) ⟨by rw [R], rfl⟩ | refine Qd List.take_length (.keep (.v _)) ⟨by rw [R], rfl⟩
      · have hn : (YH r.name || Zj r.name) = true := by rw [ce, cr]; rfl
        rw [cr] at cn
        by_cases n0 : n = 0
        · have R : XQ r = false := by rw [XQ, preR, hn, decide_eq_false (by omega)]; rfl
          have m0 : ((n : Int) == 0) = true := by simp [n0]
          repeat (first | ((first | (with_reducible (first | refine Qa fun K E hK hE => ?_ | refine Qy cn ?_))); simp -implicitDefEqProofs only [Qf, Qb, Qi, OpW, QW, aop, AS.ev, Qc, Qq, Qz, QM, Qm, Qr, Bool.not_true, Bool.not_false, ↓reduceIte, Nat.reduceLT, Nat.reduceEqDiff, Nat.add_zero, Ql, QI, QJ, aBin, QX, List.getElem?_cons_zero, List.getElem?_cons_succ, Option.map_some, Option.bind_some, List.getElem?_toArray, List.map_cons, List.map_nil, QU, XM, YM, beq_self_eq_true, ti9, XX, ee, m0]) | (with_reducible (first | refine Qh fun K hK => ?_ | refine Qk ?_ | refine Qo ?_ | refine Qt ?_ | refine Qe ?_ | refine QA ?_ | refine QE ?_)) | ((with_reducible refine hK _ ?_); clear hK) | (refine Qj rfl ?_; simp only [↓reduceIte, Bool.false_eq_true]))
          simp only [QO, Qp, Qv, upd, ↓reduceIte, Option.some.injEq, exists_eq_left']; first | refine Qd (htake _ _) (.keep (.v _)) ⟨by rw [R], rfl⟩ | refine Qd List.take_length (.keep (.v _)) ⟨by rw [R], rfl⟩
        have m0 : ((n : Int) == 0) = false := by simp; omega
        by_cases n4 : n > 4
        · have R : XQ r = false := by rw [XQ, preR, hn, decide_eq_false (by omega)]; rfl
          have m4 : (n : Int) > 4 := by omega
          repeat (first | ((first | (with_reducible (first | refine Qa fun K E hK hE => ?_ | refine Qn fun K E hK hE => ?_ | refine Qy cn ?_))); simp -implicitDefEqProofs only [Qf, Qb, Qi, OpW, QW, aop, AS.ev, Qc, Qq, Qz, QM, Qm, Qr, Bool.not_true, Bool.not_false, ↓reduceIte, Nat.reduceLT, Nat.reduceEqDiff, Nat.add_zero, Ql, QI, QJ, aBin, QX, List.getElem?_cons_zero, List.getElem?_cons_succ, Option.map_some, Option.bind_some, List.getElem?_toArray, List.map_cons, List.map_nil, QU, Q6, XM, YM, decide_true, beq_self_eq_true, ti9, XX, ee, m0, m4]) | (with_reducible (first | refine Qh fun K hK => ?_ | refine Qk ?_ | refine Qo ?_ | refine Qe ?_ | refine QA ?_ | refine QE ?_)) | ((with_reducible refine hK _ ?_); clear hK) | (refine Qj rfl ?_; simp only [↓reduceIte, Bool.false_eq_true]))
          simp only [QO, Qp, Qv, upd, ↓reduceIte, Option.some.injEq, exists_eq_left']; first | refine Qd (htake _ _) (.keep (.v _)) ⟨by rw [R], rfl⟩ | refine Qd List.take_length (.keep (.v _)) ⟨by rw [R], rfl⟩
        have m4 : ¬ (n : Int) > 4 := by omega
        have hh : decide (0 < r.keep.length + r.remove.length ∧ r.keep.length + r.remove.length ≤ 4) = true := decide_eq_true (by omega)
        by_cases g0 : r.guard.length > 12
        · have R : XQ r = false := by rw [XQ, preR, hn, hh, decide_eq_false (by omega)]; rfl
          have mg : (r.guard.length : Int) > 12 := by omega
          repeat (first | ((first | (with_reducible (first | refine Qa fun K E hK hE => ?_ | refine Qn fun K E hK hE => ?_ | refine Qy cn ?_))); simp -implicitDefEqProofs only [Qf, Qb, Qi, OpW, QW, aop, AS.ev, Qc, Qq, Qz, QM, Qm, Qr, Bool.not_true, Bool.not_false, ↓reduceIte, Nat.reduceLT, Nat.reduceEqDiff, Nat.zero_add, Nat.add_zero, Ql, QI, QJ, aBin, aLen, QX, List.getElem?_cons_zero, List.getElem?_cons_succ, Option.map_some, Option.bind_some, List.getElem?_toArray, List.map_cons, List.map_nil, QU, Q6, XM, YM, goInt, decide_true, decide_false, beq_self_eq_true, ti9, ti23, un23, XX, X5, ee, m0, m4, mg, QF]) | (with_reducible (first | refine Qh fun K hK => ?_ | refine Qk ?_ | refine Qo ?_ | refine Qt ?_ | refine Qe ?_ | refine QA ?_ | refine QE ?_)) | ((with_reducible refine hK _ ?_); clear hK) | (refine Qj rfl ?_; simp only [↓reduceIte, Bool.false_eq_true]))
          simp only [QO, Qp, Qv, upd, ↓reduceIte, Option.some.injEq, exists_eq_left']; first | refine Qd (htake _ _) (.keep (.v _)) ⟨by rw [R], rfl⟩ | refine Qd List.take_length (.keep (.v _)) ⟨by rw [R], rfl⟩
        have mg : ¬ (r.guard.length : Int) > 12 := by omega
        by_cases b0 : r.body.length > 12
        · have R : XQ r = false := by rw [XQ, preR, hn, hh, decide_eq_false (by omega)]; rfl
          have mb : (r.body.length : Int) > 12 := by omega
          repeat (first | ((first | (with_reducible (first | refine Qa fun K E hK hE => ?_ | refine Qn fun K E hK hE => ?_ | refine Qy cn ?_))); simp -implicitDefEqProofs only [Qf, Qb, Qi, OpW, QW, aop, AS.ev, Qc, Qq, Qz, QM, Qm, Qr, Bool.not_true, Bool.not_false, ↓reduceIte, Nat.reduceLT, Nat.reduceEqDiff, Nat.zero_add, Nat.add_zero, Ql, QI, QJ, aBin, aLen, QX, List.getElem?_cons_zero, List.getElem?_cons_succ, Option.map_some, Option.bind_some, List.getElem?_toArray, List.map_cons, List.map_nil, QU, Q6, XM, YM, goInt, decide_true, decide_false, beq_self_eq_true, ti9, ti23, un23, XX, X5, X9, ee, m0, m4, mg, mb, QF]) | (with_reducible (first | refine Qh fun K hK => ?_ | refine Qk ?_ | refine Qo ?_ | refine Qe ?_ | refine QA ?_ | refine QE ?_)) | ((with_reducible refine hK _ ?_); clear hK) | (refine Qj rfl ?_; simp only [↓reduceIte, Bool.false_eq_true]))
          simp only [QO, Qp, Qv, upd, ↓reduceIte, Option.some.injEq, exists_eq_left']; first | refine Qd (htake _ _) (.keep (.v _)) ⟨by rw [R], rfl⟩ | refine Qd List.take_length (.keep (.v _)) ⟨by rw [R], rfl⟩
        have mb : ¬ (r.body.length : Int) > 12 := by omega
        have hgb : decide (r.guard.length ≤ 12 ∧ r.body.length ≤ 12) = true := decide_eq_true (by omega)
        by_cases b1 : r.body.length = 1
        · have hb0 : 0 < r.body.length := by omega
          have m1 : ((r.body.length : Int) == 1) = true := by simp; omega
          have m2 : (0 : Int) < r.body.length := by omega
          have hg0 := YG G.goal hb0
          have hone := Qcq b1 hb0
          cases co : (r.body[0].op == 1)
          · have P : preR r = true := by rw [preR, hn, hh, hgb, hone, co]; rfl
            repeat (first | ((first | (with_reducible (first | refine Qa fun K E hK hE => ?_ | refine Qn fun K E hK hE => ?_ | refine Qy cn ?_))); simp -implicitDefEqProofs only [Qf, Qb, Qi, OpW, QW, aop, AS.ev, Qc, Qq, QM, Qm, Qr, Bool.not_true, Bool.not_false, ↓reduceIte, Nat.reduceLT, Nat.reduceEqDiff, Nat.zero_add, Nat.add_zero, and_self, Ql, QI, QJ, QL, aBin, aLen, QX, List.getElem?_cons_zero, List.getElem?_cons_succ, Option.map_some, Option.bind_some, List.getElem?_toArray, List.map_cons, List.map_nil, QU, Q6, XM, YM, goInt, decide_false, beq_self_eq_true, Int.toNat_zero, ti3, ti9, ti23, ei23, un23, XX, X5, X9, XR, Int.le_refl, ee, m0, m4, mg, mb, m1, m2, hg0, co, QF, Q2]) | (with_reducible (first | refine Qh fun K hK => ?_ | refine Qk ?_ | refine Qt ?_ | refine Qe ?_ | refine Qs ?_)) | ((with_reducible refine hK _ ?_); clear hK) | (refine Qj rfl ?_; simp only [↓reduceIte, Bool.false_eq_true]))
            exact ⟨P, rfl, rfl⟩
          · have R : XQ r = false := by rw [XQ, preR, hn, hh, hgb, hone, co]; rfl
            repeat (first | ((first | (with_reducible (first | refine Qa fun K E hK hE => ?_ | refine Qn fun K E hK hE => ?_ | refine Qy cn ?_))); simp -implicitDefEqProofs only [Qf, Qb, Qi, OpW, QW, aop, AS.ev, Qc, Qq, Qz, QM, Qm, Qr, Bool.not_true, Bool.not_false, ↓reduceIte, Nat.reduceLT, Nat.reduceEqDiff, Nat.zero_add, Nat.add_zero, and_self, Ql, QI, QJ, QL, aBin, aLen, QX, List.getElem?_cons_zero, List.getElem?_cons_succ, Option.map_some, Option.bind_some, List.getElem?_toArray, List.map_cons, List.map_nil, QU, Q6, XM, YM, goInt, decide_false, beq_self_eq_true, Int.toNat_zero, ti3, ti9, ti23, ei23, un23, XX, X5, X9, XR, Int.le_refl, ee, m0, m4, mg, mb, m1, m2, hg0, co, QF, Q2]) | (with_reducible (first | refine Qh fun K hK => ?_ | refine Qk ?_ | refine Qo ?_ | refine Qe ?_ | refine QA ?_ | refine QE ?_)) | ((with_reducible refine hK _ ?_); clear hK) | (refine Qj rfl ?_; simp only [↓reduceIte, Bool.false_eq_true]))
            simp only [QO, Qp, Qv, upd, ↓reduceIte, Option.some.injEq, exists_eq_left']; first | refine Qd (htake _ _) (.keep (.v _)) ⟨by rw [R], rfl⟩ | refine Qd List.take_length (.keep (.v _)) ⟨by rw [R], rfl⟩
        · have m1 : ((r.body.length : Int) == 1) = false := by simp; omega
          have hone : Qed r.body = false := by
            match hq : r.body, b1 with
            | [], _ => rfl
            | [g], b1 => exact absurd rfl b1
            | _ :: _ :: _, _ => rfl
          have P : preR r = true := by rw [preR, hn, hh, hgb, hone]; rfl
          repeat (first | ((first | (with_reducible (first | refine Qa fun K E hK hE => ?_ | refine Qn fun K E hK hE => ?_ | refine Qy cn ?_))); simp -implicitDefEqProofs only [Qf, Qb, Qi, OpW, QW, aop, undef, AS.ev, Qc, Qq, Qz, QM, Qm, Qr, Bool.not_true, Bool.not_false, ↓reduceIte, Nat.reduceLT, Nat.reduceEqDiff, Nat.zero_add, Nat.add_zero, Ql, QI, QJ, aBin, aLen, QX, List.getElem?_cons_zero, List.getElem?_cons_succ, Option.map_some, Option.bind_some, List.getElem?_toArray, List.map_cons, List.map_nil, QU, Q6, XM, YM, goInt, decide_false, beq_self_eq_true, Bool.false_eq_true, beq_true, ti9, ti23, un23, XX, X5, X9, ee, m0, m4, mg, mb, m1, QF]) | (with_reducible (first | refine Qh fun K hK => ?_ | refine Qk ?_ | refine Qt ?_ | refine Qe ?_ | refine Qs ?_)) | ((with_reducible refine hK _ ?_); clear hK) | (refine Qj rfl ?_; simp only [↓reduceIte, Bool.false_eq_true]))
          exact ⟨P, rfl, rfl⟩
    · rw [ce] at ee
      have hn : (YH r.name || Zj r.name) = true := by rw [ce]; rfl
      by_cases n0 : n = 0
      · have R : XQ r = false := by rw [XQ, preR, hn, decide_eq_false (by omega)]; rfl
        have m0 : ((n : Int) == 0) = true := by simp [n0]
        repeat (first | (((with_reducible refine Qa fun K E hK hE => ?_)); simp -implicitDefEqProofs only [Qf, Qb, Qi, OpW, aop, undef, AS.ev, Qc, Qq, Qz, QM, Qm, Qr, Bool.not_true, ↓reduceIte, Nat.reduceLT, Nat.reduceEqDiff, Nat.add_zero, Ql, QI, QJ, aBin, QX, List.getElem?_cons_zero, List.getElem?_cons_succ, Option.map_some, Option.bind_some, List.getElem?_toArray, QU, YM, Bool.false_eq_true, beq_true, ti9, XX, ee, m0]) | (with_reducible (first | refine Qh fun K hK => ?_ | refine Qk ?_ | refine Qo ?_ | refine Qt ?_ | refine Qe ?_ | refine QA ?_ | refine QE ?_)) | ((with_reducible refine hK _ ?_); clear hK) | (refine Qj rfl ?_; simp only [↓reduceIte, Bool.false_eq_true]))
        simp only [QO, Qp, Qv, upd, ↓reduceIte, Option.some.injEq, exists_eq_left']; first | refine Qd (htake _ _) (.keep (.v _)) ⟨by rw [R], rfl⟩ | refine Qd List.take_length (.keep (.v _)) ⟨by rw [R], rfl⟩
      have m0 : ((n : Int) == 0) = false := by simp; omega
      by_cases n4 : n > 4
      · have R : XQ r = false := by rw [XQ, preR, hn, decide_eq_false (by omega)]; rfl
        have m4 : (n : Int) > 4 := by omega
        repeat (first | ((first | (with_reducible (first | refine Qa fun K E hK hE => ?_ | refine Qn fun K E hK hE => ?_))); simp -implicitDefEqProofs only [Qf, Qb, Qi, OpW, aop, undef, AS.ev, Qc, Qq, Qz, QM, Qm, Qr, Bool.not_true, ↓reduceIte, Nat.reduceLT, Nat.reduceEqDiff, Nat.add_zero, Ql, QI, QJ, aBin, QX, List.getElem?_cons_zero, List.getElem?_cons_succ, Option.map_some, Option.bind_some, List.getElem?_toArray, QU, Q6, YM, decide_true, Bool.false_eq_true, beq_true, ti9, XX, ee, m0, m4]) | (with_reducible (first | refine Qh fun K hK => ?_ | refine Qk ?_ | refine Qo ?_ | refine Qe ?_ | refine QA ?_ | refine QE ?_)) | ((with_reducible refine hK _ ?_); clear hK) | (refine Qj rfl ?_; simp only [↓reduceIte, Bool.false_eq_true]))
        simp only [QO, Qp, Qv, upd, ↓reduceIte, Option.some.injEq, exists_eq_left']; first | refine Qd (htake _ _) (.keep (.v _)) ⟨by rw [R], rfl⟩ | refine Qd List.take_length (.keep (.v _)) ⟨by rw [R], rfl⟩
      have m4 : ¬ (n : Int) > 4 := by omega
      have hh : decide (0 < r.keep.length + r.remove.length ∧ r.keep.length + r.remove.length ≤ 4) = true := decide_eq_true (by omega)
      by_cases g0 : r.guard.length > 12
      · have R : XQ r = false := by rw [XQ, preR, hn, hh, decide_eq_false (by omega)]; rfl
        have mg : (r.guard.length : Int) > 12 := by omega
        repeat (first | ((first | (with_reducible (first | refine Qa fun K E hK hE => ?_ | refine Qn fun K E hK hE => ?_))); simp -implicitDefEqProofs only [Qf, Qb, Qi, OpW, aop, undef, AS.ev, Qc, Qq, Qz, QM, Qm, Qr, Bool.not_true, ↓reduceIte, Nat.reduceLT, Nat.reduceEqDiff, Nat.zero_add, Nat.add_zero, Ql, QI, QJ, aBin, aLen, QX, List.getElem?_cons_zero, List.getElem?_cons_succ, Option.map_some, Option.bind_some, List.getElem?_toArray, QU, Q6, YM, goInt, decide_true, decide_false, Bool.false_eq_true, beq_true, ti9, ti23, un23, XX, X5, ee, m0, m4, mg, QF]) | (with_reducible (first | refine Qh fun K hK => ?_ | refine Qk ?_ | refine Qo ?_ | refine Qt ?_ | refine Qe ?_ | refine QA ?_ | refine QE ?_)) | ((with_reducible refine hK _ ?_); clear hK) | (refine Qj rfl ?_; simp only [↓reduceIte, Bool.false_eq_true]))
        simp only [QO, Qp, Qv, upd, ↓reduceIte, Option.some.injEq, exists_eq_left']; first | refine Qd (htake _ _) (.keep (.v _)) ⟨by rw [R], rfl⟩ | refine Qd List.take_length (.keep (.v _)) ⟨by rw [R], rfl⟩
      have mg : ¬ (r.guard.length : Int) > 12 := by omega
      by_cases b0 : r.body.length > 12
      · have R : XQ r = false := by rw [XQ, preR, hn, hh, decide_eq_false (by omega)]; rfl
        have mb : (r.body.length : Int) > 12 := by omega
        repeat (first | ((first | (with_reducible (first | refine Qa fun K E hK hE => ?_ | refine Qn fun K E hK hE => ?_))); simp -implicitDefEqProofs only [Qf, Qb, Qi, OpW, aop, undef, AS.ev, Qc, Qq, Qz, QM, Qm, Qr, Bool.not_true, ↓reduceIte, Nat.reduceLT, Nat.reduceEqDiff, Nat.zero_add, Nat.add_zero, Ql, QI, QJ, aBin, aLen, QX, List.getElem?_cons_zero, List.getElem?_cons_succ, Option.map_some, Option.bind_some, List.getElem?_toArray, QU, Q6, YM, goInt, decide_true, decide_false, Bool.false_eq_true, beq_true, ti9, ti23, un23, XX, X5, X9, ee, m0, m4, mg, mb, QF]) | (with_reducible (first | refine Qh fun K hK => ?_ | refine Qk ?_ | refine Qo ?_ | refine Qe ?_ | refine QA ?_ | refine QE ?_)) | ((with_reducible refine hK _ ?_); clear hK) | (refine Qj rfl ?_; simp only [↓reduceIte, Bool.false_eq_true]))
        simp only [QO, Qp, Qv, upd, ↓reduceIte, Option.some.injEq, exists_eq_left']; first | refine Qd (htake _ _) (.keep (.v _)) ⟨by rw [R], rfl⟩ | refine Qd List.take_length (.keep (.v _)) ⟨by rw [R], rfl⟩
      have mb : ¬ (r.body.length : Int) > 12 := by omega
      have hgb : decide (r.guard.length ≤ 12 ∧ r.body.length ≤ 12) = true := decide_eq_true (by omega)
      by_cases b1 : r.body.length = 1
      · have hb0 : 0 < r.body.length := by omega
        have m1 : ((r.body.length : Int) == 1) = true := by simp; omega
        have m2 : (0 : Int) < r.body.length := by omega
        have hg0 := YG G.goal hb0
        have hone := Qcq b1 hb0
        cases co : (r.body[0].op == 1)
        · have P : preR r = true := by rw [preR, hn, hh, hgb, hone, co]; rfl
          repeat (first | ((first | (with_reducible (first | refine Qa fun K E hK hE => ?_ | refine Qn fun K E hK hE => ?_))); simp -implicitDefEqProofs only [Qf, Qb, Qi, OpW, aop, undef, AS.ev, Qc, Qq, Qz, QM, Qm, Qr, Bool.not_true, ↓reduceIte, Nat.reduceLT, Nat.reduceEqDiff, Nat.zero_add, Nat.add_zero, and_self, Ql, QI, QJ, QL, aBin, aLen, QX, List.getElem?_cons_zero, List.getElem?_cons_succ, Option.map_some, Option.bind_some, List.getElem?_toArray, QU, Q6, YM, goInt, decide_false, beq_self_eq_true, Int.toNat_zero, Bool.false_eq_true, beq_true, ti3, ti9, ti23, ei23, un23, XX, X5, X9, XR, Int.le_refl, ee, m0, m4, mg, mb, m1, m2, hg0, co, QF, Q2]) | (with_reducible (first | refine Qh fun K hK => ?_ | refine Qk ?_ | refine Qt ?_ | refine Qe ?_ | refine Qs ?_)) | ((with_reducible refine hK _ ?_); clear hK) | (refine Qj rfl ?_; simp only [↓reduceIte, Bool.false_eq_true]))
          exact ⟨P, rfl, rfl⟩
        · have R : XQ r = false := by rw [XQ, preR, hn, hh, hgb, hone, co]; rfl
          repeat (first | ((first | (with_reducible (first | refine Qa fun K E hK hE => ?_ | refine Qn fun K E hK hE => ?_))); simp -implicitDefEqProofs only [Qf, Qb, Qi, OpW, aop, undef, AS.ev, Qc, Qq, Qz, QM, Qm, Qr, Bool.not_true, ↓reduceIte, Nat.reduceLT, Nat.reduceEqDiff, Nat.zero_add, Nat.add_zero, and_self, Ql, QI, QJ, QL, aBin, aLen, QX, List.getElem?_cons_zero, List.getElem?_cons_succ, Option.map_some, Option.bind_some, List.getElem?_toArray, QU, Q6, YM, goInt, decide_false, beq_self_eq_true, Int.toNat_zero, Bool.false_eq_true, beq_true, ti3, ti9, ti23, ei23, un23, XX, X5, X9, XR, Int.le_refl, ee, m0, m4, mg, mb, m1, m2, hg0, co, QF, Q2]) | (with_reducible (first | refine Qh fun K hK => ?_ | refine Qk ?_ | refine Qo ?_ | refine Qe ?_ | refine QA ?_ | refine QE ?_)) | ((with_reducible refine hK _ ?_); clear hK) | (refine Qj rfl ?_; simp only [↓reduceIte, Bool.false_eq_true]))
          simp only [QO, Qp, Qv, upd, ↓reduceIte, Option.some.injEq, exists_eq_left']; first | refine Qd (htake _ _) (.keep (.v _)) ⟨by rw [R], rfl⟩ | refine Qd List.take_length (.keep (.v _)) ⟨by rw [R], rfl⟩
      · have m1 : ((r.body.length : Int) == 1) = false := by simp; omega
        have hone : Qed r.body = false := by
          match hq : r.body, b1 with
          | [], _ => rfl
          | [g], b1 => exact absurd rfl b1
          | _ :: _ :: _, _ => rfl
        have P : preR r = true := by rw [preR, hn, hh, hgb, hone]; rfl
        repeat (first | ((first | (with_reducible (first | refine Qa fun K E hK hE => ?_ | refine Qn fun K E hK hE => ?_))); simp -implicitDefEqProofs only [Qf, Qb, Qi, OpW, aop, undef, AS.ev, Qc, Qq, Qz, QM, Qm, Qr, Bool.not_true, ↓reduceIte, Nat.reduceLT, Nat.reduceEqDiff, Nat.zero_add, Nat.add_zero, Ql, QI, QJ, aBin, aLen, QX, List.getElem?_cons_zero, List.getElem?_cons_succ, Option.map_some, Option.bind_some, List.getElem?_toArray, QU, Q6, YM, goInt, decide_false, Bool.false_eq_true, beq_true, ti9, ti23, un23, XX, X5, X9, ee, m0, m4, mg, mb, m1, QF]) | (with_reducible (first | refine Qh fun K hK => ?_ | refine Qk ?_ | refine Qt ?_ | refine Qe ?_ | refine Qs ?_)) | ((with_reducible refine hK _ ?_); clear hK) | (refine Qj rfl ?_; simp only [↓reduceIte, Bool.false_eq_true]))
        exact ⟨P, rfl, rfl⟩
end Go.Proofs.YtenheconhibonaaGreatDoor.Ab
set_option linter.unusedSimpArgs false
set_option linter.unusedVariables false
set_option maxHeartbeats 4000000
set_option maxRecDepth 4000
namespace Go.Proofs.YtenheconhibonaaGreatDoor.Ab
open Go.Proofs
theorem QjS {l : List ByteArray} (h : ∀ x ∈ l, x.size ≤ 15000) : (l.map fun x => x.size + 2).sum ≤ 15002 * l.length := by
  induction l with
  | nil => simp
  | cons x l ih =>
    rw [List.map_cons, List.sum_cons, List.length_cons]
    have := h x (by simp)
    have := ih fun y hy => h y (by simp [hy])
    omega
theorem Qac {X : Type} (tx : X → ByteArray) (l : List X) (h : ∀ x ∈ l, 1 ≤ (tx x).size ∧ (tx x).size ≤ 15000) : (XP true (l.map tx)).size ≤ 15002 * l.length ∧ (0 < l.length → 0 < (XP true (l.map tx)).size) := by
  have h1 := QdN (l.map tx) true
  have h2 := QjS (l := l.map tx) fun x hx => by obtain ⟨y, hy, rfl⟩ := List.mem_map.1 hx; exact (h y hy).2
  rw [List.length_map] at h2
  refine ⟨by omega, fun h0 => ?_⟩
  match l, h0 with
  | x :: l, _ =>
    have := (h x (by simp)).1
    rw [List.map_cons, Qdf true _ (tx x) (l.map tx) rfl]
    omega
theorem Qif {g : G} (h : Xg g = true) : 1 ≤ (txtA g).size ∧ (txtA g).size ≤ 15000 := by
  rw [txtA, if_pos h]; exact ⟨(Qbj h).2.2.1, (Qbj h).2.2.2⟩
theorem Qh0 {g : G} (h : Q8 g = true) : 1 ≤ (txtG g).size ∧ (txtG g).size ≤ 15000 := by
  rw [txtG, if_pos h]; exact ⟨(Qbp h).2.2.1, (Qbp h).2.2.2.1⟩
def jA (l : List G) : ByteArray := XP true (l.map txtA)
def jG (l : List G) : ByteArray := XP true (l.map txtG)
theorem Qh1 {l : List G} (hv : l.all Xg = true) : (jA l).size ≤ 15002 * l.length := (Qac txtA l fun x hx => Qif (List.all_eq_true.1 hv x hx)).1
theorem QhJ {l : List G} (hv : l.all Q8 = true) : (jG l).size ≤ 15002 * l.length := (Qac txtG l fun x hx => Qh0 (List.all_eq_true.1 hv x hx)).1
theorem Qgb (l : List G) (hv : l.all Xg = true) (hl : l.length ≤ 100000) (h : AH) (hG : Xu h) :
    XG Tryz.prog 36 [.sl 2 (vs G.atom l) none, .fn (.func 37) [] []] h fun o h' => o = .ret (.v (.string (jA l))) ∧ h' = h := by
  cases l with
  | nil => exact QfZ _ h
  | cons x l =>
    have hj := Qac txtA (x :: l) fun x hx => Qif (List.all_eq_true.1 hv x hx)
    refine QeL G.atom txtA _ Qd2 (x :: l) (by simp) (by omega) h hG (fun g hg h hG => FunW.call (Qeu g ?_ h hG)) (hj.2 (by simp)) (by omega)
    have := (Qbj (List.all_eq_true.1 hv g hg)).2.1
    omega
theorem QfK (l : List G) (hv : l.all Q8 = true) (hl : l.length ≤ 100000) (h : AH) (hG : Xu h) :
    XG Tryz.prog 38 [.sl 3 (vs G.goal l) none, .fn (.func 39) [] []] h fun o h' => o = .ret (.v (.string (jG l))) ∧ h' = h := by
  cases l with
  | nil => exact Qf9 _ h
  | cons x l =>
    have hj := Qac txtG (x :: l) fun x hx => Qh0 (List.all_eq_true.1 hv x hx)
    refine Qfr G.goal txtG _ QcG (x :: l) (by simp) (by omega) h hG (fun g hg h hG => FunW.call (QdB g ?_ h hG)) (hj.2 (by simp)) (by omega)
    have := (Qbp (List.all_eq_true.1 hv g hg)).2.1
    omega
abbrev atB : ByteArray := { data := #[32, 64, 32] }
abbrev impB : ByteArray := { data := #[32, 61, 61, 62, 32] }
abbrev bsB : ByteArray := { data := #[32, 92, 32] }
abbrev simB : ByteArray := { data := #[32, 60, 61, 62, 32] }
abbrev barB : ByteArray := { data := #[32, 124, 32] }
abbrev dotB : ByteArray := { data := #[46] }
def t1R (x : Rl) : ByteArray := if YH x.name = true then .empty else x.name ++ atB
def t3R (x : Rl) (t : ByteArray) : ByteArray := if x.remove = [] then t ++ impB else (if x.keep = [] then t else t ++ bsB) ++ (jA x.remove ++ simB)
def t4R (x : Rl) (t : ByteArray) : ByteArray := if x.guard = [] then t else t ++ (jG x.guard ++ barB)
def t5R (x : Rl) (t : ByteArray) : ByteArray := if x.body = [] then t ++ Qee else t
def t2R (x : Rl) : ByteArray := t1R x ++ jA x.keep
def Qet (x : Rl) : ByteArray := t5R x (t4R x (t3R x (t2R x))) ++ (jG x.body ++ dotB)
def QbA (r : Rl) : ByteArray := if XQ (numR r) = true then Qa5 (Qet (numR r)) else { data := #[] }
theorem QcM (r : Rl) (h1 : r.keep.length ≤ 100000) (h2 : r.remove.length ≤ 100000) (h3 : r.guard.length ≤ 100000) (h4 : r.body.length ≤ 100000) (hw : wG r.keep + wG r.remove + wG r.guard + wG r.body ≤ 1000000)
    (h : AH) (hG : Xu h) : XG Tryz.prog 10 [r.av] h fun o h' => o = .ret (.v (.string (QbA r))) ∧ h' = h := by
  have cn := ZI r h1 h2 h3 h4 hw
  obtain ⟨x, ex⟩ : ∃ x, x = numR r := ⟨_, rfl⟩
  rw [← ex] at cn
  have l1 : x.keep.length ≤ 100000 := by rw [ex]; simp only [numR, Zy]; exact h1
  have l2 : x.remove.length ≤ 100000 := by rw [ex]; simp only [numR, Zy]; exact h2
  have l3 : x.guard.length ≤ 100000 := by rw [ex]; simp only [numR, Zy]; exact h3
  have l4 : x.body.length ≤ 100000 := by rw [ex]; simp only [numR, Zy]; exact h4
  have cr := QdT x l1 l2 l3 l4
  have exv : x.av = AV.agg [.v (.string x.name), .sl 2 (vs G.atom x.keep) none, .sl 2 (vs G.atom x.remove) none, .sl 3 (vs G.goal x.guard) none, .sl 3 (vs G.goal x.body) none, .v (.int .i64 x.vars)] := rfl
  have erv : r.av = AV.agg [.v (.string r.name), .sl 2 (vs G.atom r.keep) none, .sl 2 (vs G.atom r.remove) none, .sl 3 (vs G.goal r.guard) none, .sl 3 (vs G.goal r.body) none, .v (.int .i64 r.vars)] := rfl
  rw [exv, erv] at cn
  rw [exv] at cr
  rw [QbA, ← ex, erv]
  cases hr : XQ x with
  | false =>
    rw [hr] at cr
    rw [if_neg (by decide)]
    refine Qg Tryz.func10 rfl Tryz.call10 Tryz.ntmps10 (congrArg Array.toList Tryz.results10) (by simp) ?_
    repeat (first | ((first | (with_reducible (first | refine Qa fun K E hK hE => ?_ | refine Qy cn ?_ | refine Qy cr ?_))); simp -implicitDefEqProofs only [Qf, Qb, Qi, OpW, QW, aop, undef, AS.ev, Qc, QV, QM, Qm, QC, List.getD_cons_zero, AV.Qj3, Qr, QD, List.all_cons, List.all_nil, QB, Qw, QH, Bool.and_self, Bool.not_false, ↓reduceIte, List.length_cons, List.length_nil, Nat.reduceAdd, Nat.reduceLT, Nat.reduceEqDiff, Nat.zero_add, and_self, QI, QJ, Xb, QZ, QX, X0, List.getElem?_cons_zero, List.set_cons_zero, Option.map_some, List.map_cons, List.map_nil, XM, ti25]) | (with_reducible (first | refine Qh fun K hK => ?_ | refine Qo ?_ | refine QA ?_)) | ((with_reducible refine hK _ ?_); clear hK) | (refine Qj rfl ?_; simp only [↓reduceIte]))
    simp only [QO, Qp, Qv, upd, ↓reduceIte, Option.some.injEq, exists_eq_left']; first | refine Qd (htake _ _) (.keep (.v _)) ⟨rfl, rfl⟩ | refine Qd List.take_length (.keep (.v _)) ⟨rfl, rfl⟩
  | true =>
    rw [hr] at cr
    rw [if_pos rfl]
    have hr' := hr
    simp only [XQ, Bool.and_eq_true] at hr'
    obtain ⟨hpre, v1, v2, v3, v4⟩ := hr'
    have hnx : x.name.size ≤ 140737488 := by
      rw [preR, Bool.and_eq_true, Bool.or_eq_true] at hpre
      rcases hpre.1 with e | e
      · have := Qbh e; omega
      · have := (ZJ e).2; omega
    have k1 := Qh1 v1
    have k2 := Qh1 v2
    have k3 := QhJ v3
    have k4 := QhJ v4
    obtain ⟨H0, eH⟩ : ∃ H : AH, H = h ++ [AB.cells 25 6 [.agg [.v (.string x.name), .sl 2 (vs G.atom x.keep) none, .sl 2 (vs G.atom x.remove) none, .sl 3 (vs G.goal x.guard) none, .sl 3 (vs G.goal x.body) none, .v (.int .i64 x.vars)]]] := ⟨_, rfl⟩
    have hl0 : H0.length = h.length + 1 := by rw [eH]; simp
    have hi : h.length + 1 < (H0 ++ [AB.dead, AB.dead]).length := by rw [List.length_append, hl0]; simp
    have hj : h.length + 2 < (H0 ++ [AB.dead, AB.dead]).length := by rw [List.length_append, hl0]; simp
    have hij : h.length + 1 ≠ h.length + 2 := by omega
    have g0 : ∀ u tx, (HS (H0 ++ [AB.dead, AB.dead]) (h.length + 1) (h.length + 2) u tx)[h.length]? = some (AB.cells 25 6 [.agg [.v (.string x.name), .sl 2 (vs G.atom x.keep) none, .sl 2 (vs G.atom x.remove) none, .sl 3 (vs G.goal x.guard) none, .sl 3 (vs G.goal x.body) none, .v (.int .i64 x.vars)]]) := fun u tx => by
      rw [HS, Yb _ _ (by omega) (by omega), eH]; simp
    have hGs : ∀ u tx, Xu (HS (H0 ++ [AB.dead, AB.dead]) (h.length + 1) (h.length + 2) u tx) := fun u tx => by
      have := QeK (h := H0) (by rw [eH]; exact HasG.app hG _) [AB.dead, AB.dead] rfl u tx
      rwa [hl0] at this
    have put := fun (l : List ByteArray) (hl : 0 < l.length) (hl2 : l.length ≤ 1000000) (u : Bool) (tx : ByteArray) (hs : tx.size + (catB l).size ≤ 140737488355328) => FunW.fn (first := []) (args := [.sl 1 (QeW l) none]) (cap := [.ptr (h.length + 1) 0 0]) (QiU hi hj hij l hl hl2 u tx hs)
    have put1 := fun (a : ByteArray) (u : Bool) (tx : ByteArray) (hs : tx.size + a.size ≤ 140737488355328) =>
      show FunW Tryz.prog (.fn (.func 34) [] [.ptr (h.length + 1) 0 0]) [.sl 1 [.v (.string a)] none] (HS (H0 ++ [AB.dead, AB.dead]) (h.length + 1) (h.length + 2) u tx) (fun o h' => o = .ret (.tup []) ∧ h' = HS (H0 ++ [AB.dead, AB.dead]) (h.length + 1) (h.length + 2) true (tx ++ a)) from by
        have := put [a] (by simp) (by simp) u tx (by simp only [catB, ByteArray.append_empty]; exact hs)
        simp only [catB, ByteArray.append_empty] at this
        exact this
    have put2 := fun (a b : ByteArray) (u : Bool) (tx : ByteArray) (hs : tx.size + a.size + b.size ≤ 140737488355328) =>
      show FunW Tryz.prog (.fn (.func 34) [] [.ptr (h.length + 1) 0 0]) [.sl 1 [.v (.string a), .v (.string b)] none] (HS (H0 ++ [AB.dead, AB.dead]) (h.length + 1) (h.length + 2) u tx) (fun o h' => o = .ret (.tup []) ∧ h' = HS (H0 ++ [AB.dead, AB.dead]) (h.length + 1) (h.length + 2) true (tx ++ (a ++ b))) from by
        have := put [a, b] (by simp) (by simp) u tx (by simp only [catB, ByteArray.append_empty, Qu]; omega)
        simp only [catB, ByteArray.append_empty] at this
        exact this
    have s1 : (t1R x).size ≤ 140737492 := by rw [t1R]; split
                                             · decide
                                             · rw [Qu]; have : atB.size = 3 := rfl; omega
    have s2 : (t2R x).size ≤ 2000000000 := by rw [t2R, Qu]; omega
    have s3 : (t3R x (t2R x)).size ≤ 4000000000 := by
      have i1 : impB.size = 5 := rfl
      have i2 : bsB.size = 3 := rfl
      have i3 : simB.size = 5 := rfl
      rw [t3R]; split
      · rw [Qu]; omega
      · split <;> simp only [Qu] <;> omega
    have s4 : (t4R x (t3R x (t2R x))).size ≤ 6000000000 := by
      have i1 : barB.size = 3 := rfl
      rw [t4R]; split
      · omega
      · simp only [Qu]; omega
    have s5 : (t5R x (t4R x (t3R x (t2R x)))).size ≤ 7000000000 := by
      have i1 : Qee.size = 4 := rfl
      rw [t5R]; split
      · simp only [Qu]; omega
      · omega
    have sa : atB.size = 3 := rfl
    have si : impB.size = 5 := rfl
    have sb : bsB.size = 3 := rfl
    have ss : simB.size = 5 := rfl
    have sr : barB.size = 3 := rfl
    have sd : dotB.size = 1 := rfl
    have st : Qee.size = 4 := rfl
    obtain ⟨J, eJ⟩ : ∃ J : Bool → ByteArray → AS → Prop, J = fun u tx s => s.tm 1 = .ptr h.length 0 0 ∧ s.tm 3 = .ptr (h.length + 1) 0 0 ∧ s.tm 4 = .fn (.func 34) [] [.ptr (h.length + 1) 0 0] ∧ s.h = HS (H0 ++ [AB.dead, AB.dead]) (h.length + 1) (h.length + 2) u tx := ⟨_, rfl⟩
    refine Qg Tryz.func10 rfl Tryz.call10 Tryz.ntmps10 (congrArg Array.toList Tryz.results10) (by simp) ?_
    iterate 17 (try (first | ((first | (with_reducible (first | refine Qa fun K E hK hE => ?_ | refine Qy cn ?_ | refine Qy cr ?_))); simp -implicitDefEqProofs only [Qf, Qb, Qi, OpW, QW, aop, undef, AS.ev, Qc, QV, QM, Qm, QC, List.getD_cons_zero, AV.Qj3, Qr, QD, List.all_cons, List.all_nil, QB, Qw, QN, Q9, QH, Bool.and_self, Bool.not_true, ↓reduceIte, List.length_cons, List.length_nil, Nat.reduceAdd, Nat.reduceLT, Nat.reduceEqDiff, Nat.zero_add, and_self, QI, QJ, Xb, QZ, QX, X0, hlen, happ, List.getElem?_cons_zero, List.set_cons_zero, Option.map_some, List.map_cons, List.map_nil, List.cons_append, List.nil_append, XM, ti25, zi74]) | (with_reducible (first | refine Qh fun K hK => ?_ | refine Qt ?_ | refine Qe ?_)) | ((with_reducible refine hK _ ?_); clear hK) | (refine Qj rfl ?_; simp only [↓reduceIte, Bool.false_eq_true])))
    refine Zx (h.length + 1) 74 5 (.pointer none) (by simp) ?_
    have e0 : ((h ++ [AB.cells 25 6 [.agg [.v (.string x.name), .sl 2 (vs G.atom x.keep) none, .sl 2 (vs G.atom x.remove) none, .sl 3 (vs G.goal x.guard) none, .sl 3 (vs G.goal x.body) none, .v (.int .i64 x.vars)]], AB.cells 74 2 [.agg [.v (.pointer none), .v (.slice none 0 0)]]]) ++ [AB.grow 5 1 0]).set (h.length + 1)
        (AB.cells 74 2 [.agg [.v (.pointer none), .sl 1 [] (some (h ++ [AB.cells 25 6 [.agg [.v (.string x.name), .sl 2 (vs G.atom x.keep) none, .sl 2 (vs G.atom x.remove) none, .sl 3 (vs G.goal x.guard) none, .sl 3 (vs G.goal x.body) none, .v (.int .i64 x.vars)]], AB.cells 74 2 [.agg [.v (.pointer none), .v (.slice none 0 0)]]]).length)]]) = HS (H0 ++ [AB.dead, AB.dead]) (h.length + 1) (h.length + 2) false .empty := by
      rw [eH]; simp [HS, hs2, bw]; rfl
    rw [e0]
    refine X2 (J (!YH x.name) (t1R x)) ?_ ?_
    rotate_left
    · have ee : (x.name.toList == ({ data := #[] } : ByteArray).toList) = YH x.name := rfl
      cases ce : YH x.name
      · rw [ce] at ee
        have p := put2 x.name atB false .empty (by have : ByteArray.empty.size = 0 := rfl; omega)
        rw [ByteArray.empty_append] at p
        repeat (first | ((first | (with_reducible (first | refine Qa fun K E hK hE => ?_ | refine Qn fun K E hK hE => ?_ | refine FunW.ret p ?_))); simp -implicitDefEqProofs only [Qf, Qb, Qi, OpW, QW, aop, undef, AS.ev, Qc, QM, Qm, QC, AV.Qj3, Qr, Q3, List.all_cons, List.all_nil, Qw, Bool.and_self, Bool.not_false, ↓reduceIte, List.length_cons, List.length_nil, Nat.reduceLT, Nat.reduceLeDiff, Nat.reduceEqDiff, Nat.reduceMul, Nat.zero_add, Nat.add_zero, and_self, Ql, QI, QJ, aBin, Q5, List.getElem?_cons_zero, Option.map_some, List.map_cons, List.map_nil, YM, beq_self_eq_true, rng2, Xa, Nat.reducePow, ti9, zi9, XX, ei48, g0, ee]) | (with_reducible refine Qe ?_) | ((with_reducible refine hK _ ?_); clear hK) | (refine Qj rfl ?_; simp only [↓reduceIte]))
        rw [eJ, t1R, ce]
        exact ⟨rfl, rfl, rfl, rfl⟩
      · rw [ce] at ee
        repeat (first | (((with_reducible refine Qa fun K E hK hE => ?_)); simp -implicitDefEqProofs only [Qf, Qb, Qi, OpW, aop, AS.ev, Qc, QM, Qm, Qr, Bool.not_true, ↓reduceIte, Nat.reduceLT, Nat.reduceEqDiff, Nat.add_zero, Ql, QI, QJ, aBin, List.getElem?_cons_zero, Option.map_some, YM, ti9, XX, g0, ee]) | (with_reducible (first | refine Qt ?_ | refine Qe ?_)) | ((with_reducible refine hK _ ?_); clear hK) | (refine Qj rfl ?_; simp only [↓reduceIte, Bool.false_eq_true]))
        rw [eJ, t1R, ce]
        exact ⟨rfl, rfl, rfl, rfl⟩
    rintro ⟨tm, hp⟩ hJ
    rw [eJ] at hJ
    obtain ⟨t1, t3, t4, hh⟩ := hJ
    dsimp only at t1 t3 t4 hh
    subst hh
    refine X2 (J true (t2R x)) ?_ ?_
    rotate_left
    · have c := Qgb x.keep v1 l1 _ (hGs (!YH x.name) (t1R x))
      have p := put1 (jA x.keep) (!YH x.name) (t1R x) (by omega)
      repeat (first | ((first | (with_reducible (first | refine Qn fun K E hK hE => ?_ | refine FunW.ret (FunW.call c) ?_ | refine FunW.ret p ?_))); simp -implicitDefEqProofs only [Qf, Qb, Qi, OpW, QW, aop, AS.ev, Qc, Qm, AV.Qj3, Qr, Q3, List.all_cons, List.all_nil, Qw, Bool.and_self, ↓reduceIte, List.length_cons, List.length_nil, Nat.reduceLT, Nat.reduceLeDiff, Nat.reduceEqDiff, Nat.reduceMul, Nat.zero_add, and_self, Ql, QI, QJ, Q5, List.getElem?_cons_zero, List.getElem?_cons_succ, Option.map_some, List.map_cons, List.map_nil, beq_self_eq_true, rng1, Xa, Nat.reducePow, zi9, ti22, XY, ei48, g0, t1, t4]) | (with_reducible refine Qe ?_) | ((with_reducible refine hK _ ?_); clear hK))
      rw [eJ, t2R]
      exact ⟨t1, t3, t4, rfl⟩
    clear t1 t3 t4
    rintro ⟨tm, hp⟩ hJ
    rw [eJ] at hJ
    obtain ⟨t1, t3, t4, hh⟩ := hJ
    dsimp only at t1 t3 t4 hh
    subst hh
    refine X2 (J true (t3R x (t2R x))) ?_ ?_
    rotate_left
    · by_cases q0 : x.remove = []
      · have z0 : ((x.remove.length : Int) == 0) = true := by rw [q0]; rfl
        have p := put1 impB true (t2R x) (by omega)
        repeat (first | ((first | (with_reducible (first | refine Qa fun K E hK hE => ?_ | refine FunW.ret p ?_))); simp -implicitDefEqProofs only [Qf, Qb, Qi, OpW, QW, aop, AS.ev, Qc, Qq, QM, Qm, AV.Qj3, Qr, Q3, List.all_cons, List.all_nil, Qw, Bool.and_self, ↓reduceIte, List.length_cons, List.length_nil, Nat.reduceLT, Nat.reduceLeDiff, Nat.reduceEqDiff, Nat.reduceMul, Nat.zero_add, and_self, Ql, QI, QJ, aBin, Q5, aLen, List.getElem?_cons_zero, List.getElem?_cons_succ, Option.map_some, List.map_cons, List.map_nil, QU, goInt, beq_self_eq_true, rng1, Xa, Nat.reducePow, zi9, ti22, un22, X1, ei48, g0, t1, t4, z0, QF]) | (with_reducible (first | refine Qh fun K hK => ?_ | refine Qk ?_ | refine Q1 ?_ | refine Qe ?_ | refine QS ?_ | refine QR ?_ | refine Qaq rfl ?_)) | ((with_reducible refine hK _ ?_); clear hK) | (clear hK; clear hK; (with_reducible refine hK _ ?_); clear hK) | (refine Qj rfl ?_; simp only [↓reduceIte]))
        rw [eJ, t3R, if_pos q0]
        exact ⟨t1, t3, t4, rfl⟩
      · have hq : x.remove.length ≠ 0 := fun e => q0 (List.length_eq_zero_iff.1 e)
        have z0 : ((x.remove.length : Int) == 0) = false := by simp; omega
        by_cases q1 : x.keep = []
        · have z1 : ¬ (x.keep.length : Int) > 0 := by rw [q1]; decide
          have c := Qgb x.remove v2 l2 _ (hGs true (t2R x))
          have p := put2 (jA x.remove) simB true (t2R x) (by omega)
          repeat (first | ((first | (with_reducible (first | refine Qa fun K E hK hE => ?_ | refine FunW.ret (FunW.call c) ?_ | refine FunW.ret p ?_))); simp -implicitDefEqProofs only [Qf, Qb, Qi, OpW, QW, aop, AS.ev, Qc, Qq, QM, Qm, AV.Qj3, Qr, Q3, List.all_cons, List.all_nil, Qw, Bool.and_self, ↓reduceIte, List.length_cons, List.length_nil, Nat.reduceLT, Nat.reduceLeDiff, Nat.reduceEqDiff, Nat.reduceMul, Nat.zero_add, and_self, Ql, QI, QJ, aBin, Q5, aLen, List.getElem?_cons_zero, List.getElem?_cons_succ, Option.map_some, List.map_cons, List.map_nil, QU, Q6, goInt, decide_false, beq_self_eq_true, rng2, Xa, Nat.reducePow, zi9, ti22, un22, XY, X1, ei48, g0, t1, t4, z0, z1, QF]) | (with_reducible (first | refine Qh fun K hK => ?_ | refine Qk ?_ | refine Qt ?_ | refine Q1 ?_ | refine Qe ?_ | refine QS ?_ | refine QR ?_ | refine Qaq rfl ?_)) | ((with_reducible refine hK _ ?_); clear hK) | (clear hK; clear hK; (with_reducible refine hK _ ?_); clear hK) | (refine Qj rfl ?_; simp only [↓reduceIte, Bool.false_eq_true]))
          rw [eJ, t3R, if_neg q0, if_pos q1]
          exact ⟨t1, t3, t4, rfl⟩
        · have hq1 : x.keep.length ≠ 0 := fun e => q1 (List.length_eq_zero_iff.1 e)
          have z1 : (x.keep.length : Int) > 0 := by omega
          have p1 := put1 bsB true (t2R x) (by omega)
          have c := Qgb x.remove v2 l2 _ (hGs true (t2R x ++ bsB))
          have p := put2 (jA x.remove) simB true (t2R x ++ bsB) (by rw [Qu]; omega)
          repeat (first | ((first | (with_reducible (first | refine Qa fun K E hK hE => ?_ | refine Qn fun K E hK hE => ?_ | refine FunW.ret (FunW.call c) ?_ | refine FunW.ret p ?_ | refine FunW.ret p1 ?_))); simp -implicitDefEqProofs only [Qf, Qb, Qi, OpW, QW, aop, AS.ev, Qc, Qq, QM, Qm, AV.Qj3, Qr, Q3, List.all_cons, List.all_nil, Qw, Bool.and_self, ↓reduceIte, List.length_cons, List.length_nil, Nat.reduceLT, Nat.reduceLeDiff, Nat.reduceEqDiff, Nat.reduceMul, Nat.zero_add, and_self, Ql, QI, QJ, aBin, Q5, aLen, List.getElem?_cons_zero, List.getElem?_cons_succ, Option.map_some, List.map_cons, List.map_nil, QU, Q6, goInt, decide_true, beq_self_eq_true, rng1, rng2, Xa, Nat.reducePow, zi9, ti22, un22, XY, X1, ei48, g0, t1, t4, z0, z1, QF]) | (with_reducible (first | refine Qh fun K hK => ?_ | refine Qk ?_ | refine Qt ?_ | refine Q1 ?_ | refine Qe ?_ | refine QS ?_ | refine Qs ?_ | refine QR ?_ | refine Qaq rfl ?_)) | ((with_reducible refine hK _ ?_); clear hK) | (clear hK; clear hK; (with_reducible refine hK _ ?_); clear hK) | (refine Qj rfl ?_; simp only [↓reduceIte, Bool.false_eq_true]))
          rw [eJ, t3R, if_neg q0, if_neg q1]
          exact ⟨t1, t3, t4, rfl⟩
    clear t1 t3 t4
    rintro ⟨tm, hp⟩ hJ
    rw [eJ] at hJ
    obtain ⟨t1, t3, t4, hh⟩ := hJ
    dsimp only at t1 t3 t4 hh
    subst hh
    refine X2 (J true (t4R x (t3R x (t2R x)))) ?_ ?_
    rotate_left
    · by_cases q0 : x.guard = []
      · have z0 : ¬ (x.guard.length : Int) > 0 := by rw [q0]; decide
        repeat (first | (((with_reducible refine Qa fun K E hK hE => ?_)); simp -implicitDefEqProofs only [Qf, Qb, Qi, OpW, aop, AS.ev, Qc, Qq, Qm, Qr, ↓reduceIte, Nat.reduceLT, Nat.zero_add, Ql, QI, QJ, aBin, aLen, List.getElem?_cons_zero, List.getElem?_cons_succ, Option.map_some, Q6, goInt, decide_false, ti23, un23, X5, g0, t1, z0, QF]) | (with_reducible (first | refine Qt ?_ | refine Qe ?_)) | ((with_reducible refine hK _ ?_); clear hK) | (refine Qj rfl ?_; simp only [↓reduceIte, Bool.false_eq_true]))
        rw [eJ, t4R, if_pos q0]
        exact ⟨t1, t3, t4, rfl⟩
      · have hq : x.guard.length ≠ 0 := fun e => q0 (List.length_eq_zero_iff.1 e)
        have z0 : (x.guard.length : Int) > 0 := by omega
        have c := QfK x.guard v3 l3 _ (hGs true (t3R x (t2R x)))
        have p := put2 (jG x.guard) barB true (t3R x (t2R x)) (by omega)
        repeat (first | ((first | (with_reducible (first | refine Qa fun K E hK hE => ?_ | refine Qn fun K E hK hE => ?_ | refine FunW.ret (FunW.call c) ?_ | refine FunW.ret p ?_))); simp -implicitDefEqProofs only [Qf, Qb, Qi, OpW, QW, aop, AS.ev, Qc, Qq, QM, Qm, AV.Qj3, Qr, Q3, List.all_cons, List.all_nil, Qw, Bool.and_self, ↓reduceIte, List.length_cons, List.length_nil, Nat.reduceLT, Nat.reduceLeDiff, Nat.reduceEqDiff, Nat.reduceMul, Nat.zero_add, and_self, Ql, QI, QJ, aBin, Q5, aLen, List.getElem?_cons_zero, List.getElem?_cons_succ, Option.map_some, List.map_cons, List.map_nil, Q6, goInt, decide_true, beq_self_eq_true, rng2, Xa, Nat.reducePow, zi9, ti23, un23, X5, ei48, g0, t1, t4, z0, QF]) | (with_reducible refine Qe ?_) | ((with_reducible refine hK _ ?_); clear hK) | (refine Qj rfl ?_; simp only [↓reduceIte]))
        rw [eJ, t4R, if_neg q0]
        exact ⟨t1, t3, t4, rfl⟩
    clear t1 t3 t4
    rintro ⟨tm, hp⟩ hJ
    rw [eJ] at hJ
    obtain ⟨t1, t3, t4, hh⟩ := hJ
    dsimp only at t1 t3 t4 hh
    subst hh
    refine X2 (J true (t5R x (t4R x (t3R x (t2R x))))) ?_ ?_
    rotate_left
    · by_cases q0 : x.body = []
      · have z0 : ((x.body.length : Int) == 0) = true := by rw [q0]; rfl
        have p := put1 Qee true (t4R x (t3R x (t2R x))) (by omega)
        repeat (first | ((first | (with_reducible (first | refine Qa fun K E hK hE => ?_ | refine Qn fun K E hK hE => ?_ | refine FunW.ret p ?_))); simp -implicitDefEqProofs only [Qf, Qb, Qi, OpW, QW, aop, AS.ev, Qc, Qq, QM, Qm, AV.Qj3, Qr, Q3, List.all_cons, List.all_nil, Qw, Bool.and_self, ↓reduceIte, List.length_cons, List.length_nil, Nat.reduceLT, Nat.reduceLeDiff, Nat.reduceEqDiff, Nat.reduceMul, Nat.zero_add, and_self, Ql, QI, QJ, aBin, Q5, aLen, List.getElem?_cons_zero, List.getElem?_cons_succ, Option.map_some, List.map_cons, List.map_nil, QU, goInt, beq_self_eq_true, rng1, Xa, Nat.reducePow, zi9, ti23, un23, X9, ei48, g0, t1, t4, z0, QF]) | (with_reducible refine Qe ?_) | ((with_reducible refine hK _ ?_); clear hK) | (refine Qj rfl ?_; simp only [↓reduceIte]))
        rw [eJ, t5R, if_pos q0]
        exact ⟨t1, t3, t4, rfl⟩
      · have hq : x.body.length ≠ 0 := fun e => q0 (List.length_eq_zero_iff.1 e)
        have z0 : ((x.body.length : Int) == 0) = false := by simp; omega
        repeat (first | (((with_reducible refine Qa fun K E hK hE => ?_)); simp -implicitDefEqProofs only [Qf, Qb, Qi, OpW, aop, AS.ev, Qc, Qq, Qm, Qr, ↓reduceIte, Nat.reduceLT, Nat.zero_add, Ql, QI, QJ, aBin, aLen, List.getElem?_cons_zero, List.getElem?_cons_succ, Option.map_some, QU, goInt, ti23, un23, X9, g0, t1, z0, QF]) | (with_reducible (first | refine Qt ?_ | refine Qe ?_)) | ((with_reducible refine hK _ ?_); clear hK) | (refine Qj rfl ?_; simp only [↓reduceIte, Bool.false_eq_true]))
        rw [eJ, t5R, if_neg q0]
        exact ⟨t1, t3, t4, rfl⟩
    clear t1 t3 t4
    rintro ⟨tm, hp⟩ hJ
    rw [eJ] at hJ
    obtain ⟨t1, t3, t4, hh⟩ := hJ
    dsimp only at t1 t3 t4 hh
    subst hh
    have c := QfK x.body v4 l4 _ (hGs true (t5R x (t4R x (t3R x (t2R x)))))
    have p := put2 (jG x.body) dotB true (t5R x (t4R x (t3R x (t2R x)))) (by omega)
    have sz : (Qet x).size ≤ 9000000000 ∧ 0 < (Qet x).size := by rw [Qet, Qu, Qu]; omega
    have c2 := QaX (ty := 74) (i := h.length + 1) (j := h.length + 2) hij (Qet x) sz.2 (by omega) (H0 ++ [AB.dead, AB.dead]) hi hj
    have e2 : hs2 (H0 ++ [AB.dead, AB.dead]) (h.length + 1) (bw 74 (h.length + 1) (h.length + 2) true (Qet x)) (h.length + 2) .gone = h ++ [AB.cells 25 6 [.agg [.v (.string x.name), .sl 2 (vs G.atom x.keep) none, .sl 2 (vs G.atom x.remove) none, .sl 3 (vs G.goal x.guard) none, .sl 3 (vs G.goal x.body) none, .v (.int .i64 x.vars)]], bw 74 (h.length + 1) (h.length + 2) true (Qet x), AB.gone] := by
      rw [eH]; simp [hs2]
    rw [e2, ← HS] at c2
    rw [← Qet] at p
    have c3 := QaZ (Qet x)
    repeat (first | ((first | (with_reducible (first | refine Qa fun K E hK hE => ?_ | refine FunW.ret (FunW.call c) ?_ | refine FunW.ret p ?_ | refine FunW.ret (FunW.call c2) ?_ | refine Qy c3 ?_))); simp -implicitDefEqProofs only [Qf, Qb, Qi, OpW, QW, aop, AS.ev, Qc, QM, Qm, AV.Qj3, Qr, Q3, List.all_cons, List.all_nil, Qw, Bool.and_self, ↓reduceIte, List.length_cons, List.length_nil, Nat.reduceLT, Nat.reduceLeDiff, Nat.reduceEqDiff, Nat.reduceMul, Nat.zero_add, and_self, Ql, QI, QJ, Q5, List.getElem?_cons_zero, List.getElem?_cons_succ, Option.map_some, List.map_cons, List.map_nil, beq_self_eq_true, rng2, Xa, Nat.reducePow, zi9, ti23, X9, ei48, g0, t1, t3, t4]) | (with_reducible refine Qo ?_) | ((with_reducible refine hK _ ?_); clear hK))
    simp only [QO, Qp, Qv, upd, ↓reduceIte, Option.some.injEq, exists_eq_left']; first | refine Qd (htake _ _) (.keep (.v _)) ⟨rfl, rfl⟩ | refine Qd List.take_length (.keep (.v _)) ⟨rfl, rfl⟩
end Go.Proofs.YtenheconhibonaaGreatDoor.Ab
set_option linter.unusedSimpArgs false
set_option linter.unusedVariables false
set_option maxHeartbeats 4000000
set_option maxRecDepth 4000
namespace Go.Proofs.YtenheconhibonaaGreatDoor.Ab
open Go.Proofs
def QbZ (l : List G) : ByteArray := if 40 < l.length then { data := #[] } else if l.all Q8 = true then Qa5 (jG l) else { data := #[] }
theorem Qhl (l : List G) (hl : l.length ≤ 100000) (h : AH) (hG : Xu h) : XG Tryz.prog 18 [.sl 3 (vs G.goal l) none] h fun o h' => o = .ret (.v (.string (QbZ l))) ∧ h' = h := by
  by_cases q : 40 < l.length
  · have z : (l.length : Int) > 40 := by omega
    refine Qg Tryz.func18 rfl Tryz.call18 Tryz.ntmps18 (congrArg Array.toList Tryz.results18) (by simp) ?_
    repeat (first | (((with_reducible refine Qa fun K E hK hE => ?_)); simp -implicitDefEqProofs only [Qf, Qb, Qi, OpW, aop, undef, AS.ev, Qc, Qq, Qz, QM, Qm, QC, List.getD_cons_zero, Bool.not_true, ↓reduceIte, Nat.reduceLT, Nat.reduceEqDiff, aBin, aLen, List.getElem?_cons_zero, List.getElem?_cons_succ, Option.map_some, Option.bind_some, List.getElem?_toArray, Q6, goInt, decide_true, beq_false, un23, z, QF]) | (with_reducible (first | refine Qh fun K hK => ?_ | refine Qo ?_ | refine QA ?_)) | ((with_reducible refine hK _ ?_); clear hK) | (refine Qj rfl ?_; simp only [↓reduceIte]))
    simp only [QO, Qp, Qv, upd, ↓reduceIte, Option.some.injEq, exists_eq_left']; first | refine Qd (htake _ _) (.keep (.v _)) ⟨by rw [QbZ, if_pos q], rfl⟩ | refine Qd List.take_length (.keep (.v _)) ⟨by rw [QbZ, if_pos q], rfl⟩
  · have z : ¬ (l.length : Int) > 40 := by omega
    have a := QcC G.goal Q8 (.fn (.func 61) [] []) QcG l (by omega) h (fun g _ h => FunW.call (Zu g h))
    cases hv : l.all Q8 with
    | false =>
      rw [hv] at a
      refine Qg Tryz.func18 rfl Tryz.call18 Tryz.ntmps18 (congrArg Array.toList Tryz.results18) (by simp) ?_
      repeat (first | ((first | (with_reducible (first | refine Qa fun K E hK hE => ?_ | refine FunW.ret (FunW.call a) ?_))); simp -implicitDefEqProofs only [Qf, Qb, Qi, OpW, QW, aop, undef, AS.ev, Qc, Qq, QM, Qm, QC, List.getD_cons_zero, Bool.not_false, ↓reduceIte, Nat.reduceLT, Nat.reduceEqDiff, aBin, aLen, List.getElem?_cons_zero, List.getElem?_cons_succ, Option.map_some, Option.bind_some, List.getElem?_toArray, List.map_cons, List.map_nil, Q6, XM, goInt, decide_false, beq_self_eq_true, Bool.false_eq_true, un23, z, QF]) | (with_reducible (first | refine Qh fun K hK => ?_ | refine Qo ?_ | refine QA ?_)) | ((with_reducible refine hK _ ?_); clear hK) | (refine Qj rfl ?_; simp only [↓reduceIte]))
      simp only [QO, Qp, Qv, upd, ↓reduceIte, Option.some.injEq, exists_eq_left']; first | refine Qd (htake _ _) (.keep (.v _)) ⟨by rw [QbZ, if_neg q, hv]; rfl, rfl⟩ | refine Qd List.take_length (.keep (.v _)) ⟨by rw [QbZ, if_neg q, hv]; rfl, rfl⟩
    | true =>
      rw [hv] at a
      have c := QfK l hv hl h hG
      have c3 := QaZ (jG l)
      refine Qg Tryz.func18 rfl Tryz.call18 Tryz.ntmps18 (congrArg Array.toList Tryz.results18) (by simp) ?_
      repeat (first | ((first | (with_reducible (first | refine Qa fun K E hK hE => ?_ | refine FunW.ret (FunW.call a) ?_ | refine FunW.ret (FunW.call c) ?_ | refine Qy c3 ?_))); simp -implicitDefEqProofs only [Qf, Qb, Qi, OpW, QW, aop, undef, AS.ev, Qc, Qq, QM, Qm, QC, List.getD_cons_zero, Bool.not_true, ↓reduceIte, Nat.reduceLT, Nat.reduceEqDiff, aBin, aLen, List.getElem?_cons_zero, List.getElem?_cons_succ, Option.map_some, Option.bind_some, List.getElem?_toArray, List.map_cons, List.map_nil, Q6, XM, goInt, decide_false, beq_self_eq_true, Bool.false_eq_true, un23, z, QF]) | (with_reducible (first | refine Qh fun K hK => ?_ | refine Qo ?_ | refine Qt ?_ | refine Qe ?_)) | ((with_reducible refine hK _ ?_); clear hK) | (refine Qj rfl ?_; simp only [↓reduceIte, Bool.false_eq_true]))
      simp only [QO, Qp, Qv, upd, ↓reduceIte, Option.some.injEq, exists_eq_left']; first | refine Qd (htake _ _) (.keep (.v _)) ⟨by rw [QbZ, if_neg q, if_pos hv], rfl⟩ | refine Qd List.take_length (.keep (.v _)) ⟨by rw [QbZ, if_neg q, if_pos hv], rfl⟩
def Zv (d : Dc) : Bool := Zj d.name && decide (0 ≤ d.arity ∧ d.arity ≤ 6)
theorem Qf1 (d : Dc) : Pure Tryz.prog 54 [d.av] (.b (Zv d)) := by
  intro h
  have cn : Pure Tryz.prog 55 [.v (.string d.name)] (.b (Zj d.name)) := QaW d.name
  have ed : d.av = AV.agg [.v (.string d.name), .v (.int .i64 d.arity)] := rfl
  cases hr : Zj d.name with
  | false =>
    have R : Zv d = false := by rw [Zv, hr]; rfl
    rw [hr] at cn
    refine Qg Tryz.func54 rfl Tryz.call54 Tryz.ntmps54 (congrArg Array.toList Tryz.results54) (by simp) ?_
    rw [ed]
    repeat (first | ((first | (with_reducible (first | refine Qa fun K E hK hE => ?_ | refine Qy cn ?_))); simp -implicitDefEqProofs only [Qf, Qb, Qi, OpW, QW, aop, undef, AS.ev, Qc, Qz, Qm, QC, List.getD_cons_zero, AV.Qj3, Qr, List.all_cons, List.all_nil, QB, Qw, Bool.and_self, ↓reduceIte, List.length_cons, List.length_nil, Nat.reduceAdd, Nat.reduceLT, Nat.reduceEqDiff, Nat.zero_add, Nat.add_zero, Ql, QI, QJ, QX, List.getElem?_cons_zero, List.getElem?_cons_succ, Option.map_some, Option.bind_some, List.getElem?_toArray, List.map_cons, List.map_nil, Bool.false_eq_true, beq_true, ti9, QeH]) | (with_reducible refine Qo ?_) | ((with_reducible refine hK _ ?_); clear hK))
    simp only [QO, Qp, Qv, upd, ↓reduceIte, Option.some.injEq, exists_eq_left']; first | refine Qd (htake _ _) (.keep (.v _)) ⟨by rw [R], rfl⟩ | refine Qd List.take_length (.keep (.v _)) ⟨by rw [R], rfl⟩
  | true =>
    rw [hr] at cn
    by_cases a0 : d.arity ≥ 0
    · by_cases a6 : d.arity ≤ 6
      · have R : Zv d = true := by rw [Zv, hr, decide_eq_true (by omega)]; rfl
        refine Qg Tryz.func54 rfl Tryz.call54 Tryz.ntmps54 (congrArg Array.toList Tryz.results54) (by simp) ?_
        rw [ed]
        repeat (first | ((first | (with_reducible (first | refine Qa fun K E hK hE => ?_ | refine Qy cn ?_))); simp -implicitDefEqProofs only [Qf, Qb, Qi, OpW, QW, aop, undef, AS.ev, Qc, Qq, Qz, Qm, QC, List.getD_cons_zero, AV.Qj3, Qr, List.all_cons, List.all_nil, QB, Qw, Bool.and_self, ↓reduceIte, List.length_cons, List.length_nil, Nat.reduceAdd, Nat.reduceLT, Nat.reduceEqDiff, Nat.zero_add, Nat.add_zero, Ql, QI, QJ, aBin, QX, List.getElem?_cons_zero, List.getElem?_cons_succ, Option.map_some, Option.bind_some, List.getElem?_toArray, List.map_cons, List.map_nil, YB, Ze, decide_true, beq_self_eq_true, ti3, ti9, QeH, QgD, a0, a6]) | (with_reducible refine Qo ?_) | ((with_reducible refine hK _ ?_); clear hK))
        simp only [QO, Qp, Qv, upd, ↓reduceIte, Option.some.injEq, exists_eq_left']; first | refine Qd (htake _ _) (.keep (.v _)) ⟨by rw [R], rfl⟩ | refine Qd List.take_length (.keep (.v _)) ⟨by rw [R], rfl⟩
      · have R : Zv d = false := by rw [Zv, hr, decide_eq_false (by omega)]; rfl
        refine Qg Tryz.func54 rfl Tryz.call54 Tryz.ntmps54 (congrArg Array.toList Tryz.results54) (by simp) ?_
        rw [ed]
        repeat (first | ((first | (with_reducible (first | refine Qa fun K E hK hE => ?_ | refine Qy cn ?_))); simp -implicitDefEqProofs only [Qf, Qb, Qi, OpW, QW, aop, undef, AS.ev, Qc, Qq, Qz, Qm, QC, List.getD_cons_zero, AV.Qj3, Qr, List.all_cons, List.all_nil, QB, Qw, Bool.and_self, ↓reduceIte, List.length_cons, List.length_nil, Nat.reduceAdd, Nat.reduceLT, Nat.reduceEqDiff, Nat.zero_add, Nat.add_zero, Ql, QI, QJ, aBin, QX, List.getElem?_cons_zero, List.getElem?_cons_succ, Option.map_some, Option.bind_some, List.getElem?_toArray, List.map_cons, List.map_nil, YB, Ze, decide_true, decide_false, beq_self_eq_true, ti3, ti9, QeH, QgD, a0, a6]) | (with_reducible refine Qo ?_) | ((with_reducible refine hK _ ?_); clear hK))
        simp only [QO, Qp, Qv, upd, ↓reduceIte, Option.some.injEq, exists_eq_left']; first | refine Qd (htake _ _) (.keep (.v _)) ⟨by rw [R], rfl⟩ | refine Qd List.take_length (.keep (.v _)) ⟨by rw [R], rfl⟩
    · have R : Zv d = false := by rw [Zv, hr, decide_eq_false (by omega)]; rfl
      refine Qg Tryz.func54 rfl Tryz.call54 Tryz.ntmps54 (congrArg Array.toList Tryz.results54) (by simp) ?_
      rw [ed]
      repeat (first | ((first | (with_reducible (first | refine Qa fun K E hK hE => ?_ | refine Qy cn ?_))); simp -implicitDefEqProofs only [Qf, Qb, Qi, OpW, QW, aop, undef, AS.ev, Qc, Qq, Qz, Qm, QC, List.getD_cons_zero, AV.Qj3, Qr, List.all_cons, List.all_nil, QB, Qw, Bool.and_self, ↓reduceIte, List.length_cons, List.length_nil, Nat.reduceAdd, Nat.reduceLT, Nat.reduceEqDiff, Nat.zero_add, Nat.add_zero, Ql, QI, QJ, aBin, QX, List.getElem?_cons_zero, List.getElem?_cons_succ, Option.map_some, Option.bind_some, List.getElem?_toArray, List.map_cons, List.map_nil, Ze, decide_false, beq_self_eq_true, Bool.false_eq_true, beq_true, ti3, ti9, QeH, QgD, a0]) | (with_reducible refine Qo ?_) | ((with_reducible refine hK _ ?_); clear hK))
      simp only [QO, Qp, Qv, upd, ↓reduceIte, Option.some.injEq, exists_eq_left']; first | refine Qd (htake _ _) (.keep (.v _)) ⟨by rw [R], rfl⟩ | refine Qd List.take_length (.keep (.v _)) ⟨by rw [R], rfl⟩
abbrev slB : ByteArray := { data := #[47] }
def txtD (d : Dc) : ByteArray := (d.name ++ slB) ++ decZ d.arity
theorem Qeb (d : Dc) (hn : d.name.size ≤ 1000) (ha : 0 ≤ d.arity ∧ d.arity ≤ 6) (h : AH) (hG : Xu h) : XG Tryz.prog 57 [d.av] h fun o h' => o = .ret (.v (.string (txtD d))) ∧ h' = h := by
  have ed : d.av = AV.agg [.v (.string d.name), .v (.int .i64 d.arity)] := rfl
  have c := Qdi d.arity (by omega) (by omega) (h ++ [.cells 38 2 [.agg [.v (.string d.name), .v (.int .i64 d.arity)]]]) (hG.app _)
  have ss : slB.size = 1 := rfl
  have hz := QcN d.arity (by omega) (by omega)
  have hsa1 := fun xo yo => ZZ Tryz.prog 9 xo yo d.name slB (by omega)
  have hsa2 := fun xo yo => ZZ Tryz.prog 9 xo yo (d.name ++ slB) (decZ d.arity) (by rw [Qu]; omega)
  refine Qg Tryz.func57 rfl Tryz.call57 Tryz.ntmps57 (congrArg Array.toList Tryz.results57) (by simp) ?_
  rw [ed]
  repeat (first | ((first | (with_reducible (first | refine Qa fun K E hK hE => ?_ | refine Xz (FunW.call c) (Qbt _) ?_)) | (refine QQ (id := 1) [(0, 0), (1, 0), (2, 0), (3, 0), (4, 0), (5, 3), (6, 0), (7, 0)] mixed (by kernel_rfl) fun K hK => ?_)); simp -implicitDefEqProofs only [Xc, Q7, Xn, Qf, Qb, Qi, OpW, aop, undef, AS.ev, Qc, QM, Qm, QC, List.getD_cons_zero, AV.Qj3, Qr, List.all_cons, List.all_nil, QB, Qw, Bool.and_self, ↓reduceIte, List.length_cons, List.length_nil, Nat.reduceAdd, Nat.reduceLT, Nat.reduceLeDiff, Nat.reduceEqDiff, Nat.zero_add, Nat.add_zero, Ql, QI, QJ, aBin, QX, List.getElem?_cons_zero, List.getElem?_cons_succ, Option.map_some, List.getElem?_toArray, List.map_cons, List.map_nil, ti3, ti9, QeH, QgD, hsa1, hsa2]) | (with_reducible refine Qo ?_) | ((with_reducible refine hK _ ?_); clear hK))
  simp only [QO, Qp, Qv, upd, ↓reduceIte, Option.some.injEq, exists_eq_left']; first | refine Qd (htake _ _) (.keep (.v _)) ⟨rfl, rfl⟩ | refine Qd List.take_length (.keep (.v _)) ⟨rfl, rfl⟩
theorem QhR (d : Dc) : d.av.isAgg = true ∧ d.av.cells.length = 2 ∧ d.av.cells.all AV.cell1 = true := ⟨rfl, rfl, rfl⟩
abbrev conB : ByteArray := { data := #[99, 111, 110, 115, 116, 114, 97, 105, 110, 116, 32] }
abbrev endB : ByteArray := { data := #[46, 10] }
abbrev nlB : ByteArray := { data := #[10] }
def jD (l : List Dc) : ByteArray := XP true (l.map txtD)
theorem Qho {d : Dc} (h : Zv d = true) : 1 ≤ (txtD d).size ∧ (txtD d).size ≤ 15000 := by
  rw [Zv, Bool.and_eq_true, decide_eq_true_eq] at h
  have hn := ZJ h.1
  have hz := QcN d.arity (by omega) (by omega)
  have ss : slB.size = 1 := rfl
  rw [txtD, Qu, Qu]
  omega
theorem Qjw {l : List Dc} (hv : l.all Zv = true) : (jD l).size ≤ 15002 * l.length := (Qac txtD l fun x hx => Qho (List.all_eq_true.1 hv x hx)).1
theorem QjM (l : List Dc) (hv : l.all Zv = true) (hl : l.length ≤ 100000) (h : AH) (hG : Xu h) :
    XG Tryz.prog 56 [.sl 2 (vs Dc.av l) none, .fn (.func 57) [] []] h fun o h' => o = .ret (.v (.string (jD l))) ∧ h' = h := by
  cases l with
  | nil => exact Qf8 _ h
  | cons x l =>
    have hj := Qac txtD (x :: l) fun x hx => Qho (List.all_eq_true.1 hv x hx)
    refine Qew Dc.av txtD _ QhR (x :: l) (by simp) (by omega) h hG (fun d hd h hG => FunW.call (Qeb d ?_ ?_ h hG)) (hj.2 (by simp)) (by omega)
    all_goals
      have hr := List.all_eq_true.1 hv d hd
      rw [Zv, Bool.and_eq_true, decide_eq_true_eq] at hr
    · have := (ZJ hr.1).2; omega
    · exact hr.2
def QdC (l : List Dc) : ByteArray := if l = [] then .empty else (conB ++ jD l) ++ endB
def Qdj : List Rl → ByteArray
  | [] => .empty
  | r :: l => (QbA r ++ nlB) ++ Qdj l
def QaS (l : List Rl) : Bool := l.all fun r => !YH (QbA r)
def Qbi (p : Pg) : ByteArray := if 30 < p.decls.length ∨ 40 < p.rules.length then { data := #[] } else if p.decls.all Zv = true then (if QaS p.rules = true then Qa5 (QdC p.decls ++ Qdj p.rules) else { data := #[] }) else { data := #[] }
def Rl.fits (r : Rl) : Prop := r.keep.length ≤ 100000 ∧ r.remove.length ≤ 100000 ∧ r.guard.length ≤ 100000 ∧ r.body.length ≤ 100000 ∧ wG r.keep + wG r.remove + wG r.guard + wG r.body ≤ 1000000
theorem QgS (r : Rl) : (QbA r).size ≤ 16384 := by
  rw [QbA]
  split
  · rw [Qa5]; split
    · decide
    · omega
  · decide
theorem Qjy (r : Rl) : r.av.isAgg = true ∧ r.av.cells.length = 6 ∧ r.av.cells.all AV.cell1 = true := ⟨rfl, rfl, rfl⟩
end Go.Proofs.YtenheconhibonaaGreatDoor.Ab
set_option linter.unusedSimpArgs false
set_option linter.unusedVariables false
set_option maxHeartbeats 4000000
set_option maxRecDepth 4000
namespace Go.Proofs.YtenheconhibonaaGreatDoor.Ab
open Go.Proofs
theorem Qft (p : Pg) (hd : p.decls.length ≤ 100000) (hr : p.rules.length ≤ 100000) (hf : ∀ r ∈ p.rules, r.fits) (h : AH) (hG : Xu h) :
    XG Tryz.prog 16 [p.av] h fun o h' => o = .ret (.v (.string (Qbi p))) ∧ h' = h := by
  have epv : p.av = AV.agg [.sl 2 (vs Dc.av p.decls) none, .sl 6 (vs Rl.av p.rules) none] := rfl
  rw [epv]
  by_cases q1 : 30 < p.decls.length
  · have z1 : (p.decls.length : Int) > 30 := by omega
    refine Qg Tryz.func16 rfl Tryz.call16 Tryz.ntmps16 (congrArg Array.toList Tryz.results16) (by simp) ?_
    repeat (first | (((with_reducible refine Qa fun K E hK hE => ?_)); simp -implicitDefEqProofs only [Qf, Qb, Qi, OpW, aop, undef, AS.ev, Qc, Qq, Qz, QM, Qm, QC, List.getD_cons_zero, AV.Qj3, Qr, List.all_cons, List.all_nil, QH, Bool.and_self, Bool.not_true, ↓reduceIte, List.length_cons, List.length_nil, Nat.reduceAdd, Nat.reduceLT, Nat.reduceEqDiff, Nat.zero_add, Nat.add_zero, Ql, QI, QJ, aBin, aLen, QX, List.getElem?_cons_zero, List.getElem?_cons_succ, Option.map_some, Option.bind_some, List.getElem?_toArray, Q6, goInt, decide_true, beq_false, ti33, un33, Qcp, z1, QF]) | (with_reducible (first | refine Qh fun K hK => ?_ | refine Qo ?_ | refine QA ?_)) | ((with_reducible refine hK _ ?_); clear hK) | (refine Qj rfl ?_; simp only [↓reduceIte]))
    simp only [QO, Qp, Qv, upd, ↓reduceIte, Option.some.injEq, exists_eq_left']; first | refine Qd (htake _ _) (.keep (.v _)) ⟨by rw [Qbi, if_pos (.inl q1)], rfl⟩ | refine Qd List.take_length (.keep (.v _)) ⟨by rw [Qbi, if_pos (.inl q1)], rfl⟩
  have z1 : ¬ (p.decls.length : Int) > 30 := by omega
  by_cases q2 : 40 < p.rules.length
  · have z2 : (p.rules.length : Int) > 40 := by omega
    refine Qg Tryz.func16 rfl Tryz.call16 Tryz.ntmps16 (congrArg Array.toList Tryz.results16) (by simp) ?_
    repeat (first | (((with_reducible refine Qa fun K E hK hE => ?_)); simp -implicitDefEqProofs only [Qf, Qb, Qi, OpW, aop, undef, AS.ev, Qc, Qq, QM, Qm, QC, List.getD_cons_zero, AV.Qj3, Qr, List.all_cons, List.all_nil, QH, Bool.and_self, ↓reduceIte, List.length_cons, List.length_nil, Nat.reduceAdd, Nat.reduceLT, Nat.reduceEqDiff, Nat.zero_add, Nat.add_zero, Ql, QI, QJ, aBin, aLen, QX, List.getElem?_cons_zero, List.getElem?_cons_succ, Option.map_some, Option.bind_some, List.getElem?_toArray, Q6, goInt, decide_true, decide_false, beq_self_eq_true, Bool.false_eq_true, ti27, un27, ti33, un33, Qcp, Qex, z1, z2, QF]) | (with_reducible (first | refine Qh fun K hK => ?_ | refine Qo ?_ | refine QA ?_)) | ((with_reducible refine hK _ ?_); clear hK) | (refine Qj rfl ?_; simp only [↓reduceIte]))
    simp only [QO, Qp, Qv, upd, ↓reduceIte, Option.some.injEq, exists_eq_left']; first | refine Qd (htake _ _) (.keep (.v _)) ⟨by rw [Qbi, if_pos (.inr q2)], rfl⟩ | refine Qd List.take_length (.keep (.v _)) ⟨by rw [Qbi, if_pos (.inr q2)], rfl⟩
  have z2 : ¬ (p.rules.length : Int) > 40 := by omega
  have hno : ¬ (30 < p.decls.length ∨ 40 < p.rules.length) := by omega
  have a := Qin Dc.av Zv (.fn (.func 54) [] []) QhR p.decls (by omega) (h ++ [AB.cells 35 2 [.agg [.sl 2 (vs Dc.av p.decls) none, .sl 6 (vs Rl.av p.rules) none]]]) (fun d _ h => FunW.call (Qf1 d h))
  cases hv : p.decls.all Zv with
  | false =>
    rw [hv] at a
    refine Qg Tryz.func16 rfl Tryz.call16 Tryz.ntmps16 (congrArg Array.toList Tryz.results16) (by simp) ?_
    repeat (first | ((first | (with_reducible (first | refine Qa fun K E hK hE => ?_ | refine FunW.ret (FunW.call a) ?_))); simp -implicitDefEqProofs only [Qf, Qb, Qi, OpW, QW, aop, undef, AS.ev, Qc, Qq, QM, Qm, QC, List.getD_cons_zero, AV.Qj3, Qr, List.all_cons, List.all_nil, QH, Bool.and_self, Bool.not_false, ↓reduceIte, List.length_cons, List.length_nil, Nat.reduceAdd, Nat.reduceLT, Nat.reduceEqDiff, Nat.zero_add, Nat.add_zero, Ql, QI, QJ, aBin, aLen, QX, List.getElem?_cons_zero, List.getElem?_cons_succ, Option.map_some, Option.bind_some, List.getElem?_toArray, List.map_cons, List.map_nil, Q6, XM, goInt, decide_false, beq_self_eq_true, Bool.false_eq_true, ti27, un27, ti33, un33, Qcp, Qex, z1, z2, QF]) | (with_reducible (first | refine Qh fun K hK => ?_ | refine Qo ?_ | refine Qt ?_ | refine Qe ?_ | refine QA ?_)) | ((with_reducible refine hK _ ?_); clear hK) | (refine Qj rfl ?_; simp only [↓reduceIte, Bool.false_eq_true]))
    simp only [QO, Qp, Qv, upd, ↓reduceIte, Option.some.injEq, exists_eq_left']; first | refine Qd (htake _ _) (.keep (.v _)) ⟨by rw [Qbi, if_neg hno, hv]; rfl, rfl⟩ | refine Qd List.take_length (.keep (.v _)) ⟨by rw [Qbi, if_neg hno, hv]; rfl, rfl⟩
  | true =>
  rw [hv] at a
  by_cases q3 : p.decls = [] ∧ p.rules = []
  · obtain ⟨e1, e2⟩ := q3
    have R : Qbi p = { data := #[] } := by rw [Qbi, if_neg hno, if_pos hv, e1, e2]; rfl
    rw [e1, e2] at a ⊢
    have c := Qai (ty := 74) (i := h.length + 1) (h ++ [AB.cells 35 2 [.agg [.sl 2 (vs Dc.av []) none, .sl 6 (vs Rl.av []) none]], AB.dead]) (by simp)
    have e : hs (h ++ [AB.cells 35 2 [.agg [.sl 2 (vs Dc.av []) none, .sl 6 (vs Rl.av []) none]], AB.dead]) (h.length + 1) (bw00 74) = h ++ [AB.cells 35 2 [.agg [.sl 2 (vs Dc.av []) none, .sl 6 (vs Rl.av []) none]], bw00 74] := by simp [hs]
    rw [e, bw00] at c
    simp only [Qjm] at a c
    have c3 := QaZ .empty
    have y1 : ¬ ((0 : Int) > 30) := by decide
    have y2 : ¬ ((0 : Int) > 40) := by decide
    have y3 : ¬ ((0 : Int) > 0) := by decide
    have y4 : ¬ ((0 : Int) < 0) := by decide
    rw [R]
    refine Qg Tryz.func16 rfl Tryz.call16 Tryz.ntmps16 (congrArg Array.toList Tryz.results16) (by simp) ?_
    repeat (first | ((first | (with_reducible (first | refine Qa fun K E hK hE => ?_ | refine FunW.ret (FunW.call a) ?_))); simp -implicitDefEqProofs only [Qf, Qb, Qi, OpW, QW, aop, undef, AS.ev, Qc, Qq, QM, Qm, QC, List.getD_cons_zero, AV.Qj3, Qr, List.all_cons, List.all_nil, QN, Q9, QH, Bool.and_self, Bool.not_true, ↓reduceIte, List.length_cons, List.length_nil, Nat.reduceAdd, Nat.reduceLT, Nat.reduceEqDiff, Nat.zero_add, Nat.add_zero, Ql, QI, QJ, aBin, aLen, QX, hlen, happ, List.getElem?_cons_zero, List.getElem?_cons_succ, Option.map_some, Option.bind_some, List.getElem?_toArray, List.map_cons, List.map_nil, List.cons_append, List.nil_append, Q6, XM, goInt, decide_false, beq_self_eq_true, Int.natCast_zero, Bool.false_eq_true, ti27, un27, ti33, un33, Qcp, Qex, zi74, y1, y2, y3, Qjm]) | (with_reducible (first | refine Qh fun K hK => ?_ | refine Qk ?_ | refine Qt ?_ | refine Qe ?_)) | ((with_reducible refine hK _ ?_); clear hK) | (refine Qj rfl ?_; simp only [↓reduceIte, Bool.false_eq_true]))
    obtain ⟨I, hI⟩ : ∃ I : Nat → AS → Prop, I = fun m' s => m' = 0 ∧ s.tm 3 = .ptr (h.length + 1) 0 0 ∧ s.tm 33 = .i 0 ∧ s.tm 34 = .i 0 ∧ s.h = h ++ [AB.cells 35 2 [.agg [.sl 2 [] none, .sl 6 [] none]], .cells 74 2 [.agg [.v (.pointer none), .v (.slice none 0 0)]]] := ⟨_, rfl⟩; refine Q4 I ?_ (m := 0) ?_
    · intro m' s hs; rw [hI] at hs; obtain ⟨tm, hp⟩ := s; dsimp only at hs; obtain ⟨rfl, t3, t33, t34, rfl⟩ := hs
      repeat (first | ((first | (with_reducible (first | refine Qa fun K E hK hE => ?_ | refine FunW.ret (FunW.call c) ?_ | refine Qy c3 ?_))); simp -implicitDefEqProofs only [Qf, Qb, Qi, OpW, QW, aop, AS.ev, Qc, Qm, ↓reduceIte, Nat.reduceLT, Nat.reduceEqDiff, aBin, Option.map_some, List.map_cons, List.map_nil, QY, decide_false, t3, t33, t34, y4]) | (with_reducible (first | refine Qh fun K hK => ?_ | refine Qo ?_ | refine Q1 ?_ | refine Qe ?_ | refine QS ?_ | refine QR ?_)) | ((with_reducible refine hK _ ?_); clear hK) | (clear hK; (with_reducible refine hK _ ?_); clear hK) | (refine Qj rfl ?_; simp only [↓reduceIte, Bool.false_eq_true]))
      simp only [QO, Qp, Qv, upd, ↓reduceIte, Option.some.injEq, exists_eq_left']; first | refine Qd (htake _ _) (.keep (.v _)) ⟨rfl, rfl⟩ | refine Qd List.take_length (.keep (.v _)) ⟨rfl, rfl⟩
    · rw [hI]
      exact ⟨rfl, rfl, rfl, rfl, rfl⟩
  · have k1 := Qjw hv
    have hb1 : conB.size = 11 := rfl
    have hb2 : endB.size = 2 := rfl
    have hb3 : nlB.size = 1 := rfl
    have s1 : (QdC p.decls).size ≤ 2000000000 := by
      rw [QdC]; split
      · decide
      · simp only [Qu]; omega
    obtain ⟨H0, eH⟩ : ∃ H : AH, H = h ++ [AB.cells 35 2 [.agg [.sl 2 (vs Dc.av p.decls) none, .sl 6 (vs Rl.av p.rules) none]]] := ⟨_, rfl⟩
    have hl0 : H0.length = h.length + 1 := by rw [eH]; simp
    have hi : h.length + 1 < (H0 ++ [AB.dead, AB.dead]).length := by rw [List.length_append, hl0]; simp
    have hj : h.length + 2 < (H0 ++ [AB.dead, AB.dead]).length := by rw [List.length_append, hl0]; simp
    have hle : (H0 ++ [AB.dead, AB.dead]).length = h.length + 3 := by rw [List.length_append, hl0]; rfl
    have hij : h.length + 1 ≠ h.length + 2 := by omega
    have g0 : ∀ u tx, (HS (H0 ++ [AB.dead, AB.dead]) (h.length + 1) (h.length + 2) u tx)[h.length]? = some (AB.cells 35 2 [.agg [.sl 2 (vs Dc.av p.decls) none, .sl 6 (vs Rl.av p.rules) none]]) := fun u tx => by
      rw [HS, Yb _ _ (by omega) (by omega), eH]; simp
    have hGs : ∀ u tx, Xu (HS (H0 ++ [AB.dead, AB.dead]) (h.length + 1) (h.length + 2) u tx) := fun u tx => by
      have := QeK (h := H0) (by rw [eH]; exact HasG.app hG _) [AB.dead, AB.dead] rfl u tx
      rwa [hl0] at this
    obtain ⟨u1, eu⟩ : ∃ u : Bool, u = !decide (p.decls = []) := ⟨_, rfl⟩
    refine Qg Tryz.func16 rfl Tryz.call16 Tryz.ntmps16 (congrArg Array.toList Tryz.results16) (by simp) ?_
    iterate 19 (try (first | ((first | (with_reducible (first | refine Qa fun K E hK hE => ?_ | refine FunW.ret (FunW.call a) ?_))); simp -implicitDefEqProofs only [Qf, Qb, Qi, OpW, QW, aop, undef, AS.ev, Qc, Qq, QM, Qm, QC, List.getD_cons_zero, AV.Qj3, Qr, List.all_cons, List.all_nil, QN, Q9, QH, Bool.and_self, Bool.not_true, ↓reduceIte, List.length_cons, List.length_nil, Nat.reduceAdd, Nat.reduceLT, Nat.reduceEqDiff, Nat.zero_add, Nat.add_zero, Ql, QI, QJ, aBin, aLen, QX, hlen, happ, List.getElem?_cons_zero, List.getElem?_cons_succ, Option.map_some, Option.bind_some, List.getElem?_toArray, List.map_cons, List.map_nil, List.cons_append, List.nil_append, Q6, XM, goInt, decide_false, beq_self_eq_true, Bool.false_eq_true, ti27, un27, ti33, un33, Qcp, Qex, zi74, z1, z2, QF]) | (with_reducible (first | refine Qh fun K hK => ?_ | refine Qt ?_ | refine Qe ?_)) | ((with_reducible refine hK _ ?_); clear hK) | (refine Qj rfl ?_; simp only [↓reduceIte, Bool.false_eq_true])))
    refine Zx (h.length + 1) 74 5 (.pointer none) (by simp) ?_
    have e0 : ((h ++ [AB.cells 35 2 [.agg [.sl 2 (vs Dc.av p.decls) none, .sl 6 (vs Rl.av p.rules) none]], AB.cells 74 2 [.agg [.v (.pointer none), .v (.slice none 0 0)]]]) ++ [AB.grow 5 1 0]).set (h.length + 1)
        (AB.cells 74 2 [.agg [.v (.pointer none), .sl 1 [] (some (h ++ [AB.cells 35 2 [.agg [.sl 2 (vs Dc.av p.decls) none, .sl 6 (vs Rl.av p.rules) none]], AB.cells 74 2 [.agg [.v (.pointer none), .v (.slice none 0 0)]]]).length)]]) = HS (H0 ++ [AB.dead, AB.dead]) (h.length + 1) (h.length + 2) false .empty := by
      rw [eH]; simp [HS, hs2, bw]; rfl
    rw [e0]
    refine X2 (fun s => s.tm 1 = .ptr h.length 0 0 ∧ s.tm 3 = .ptr (h.length + 1) 0 0 ∧ s.h = HS (H0 ++ [AB.dead, AB.dead]) (h.length + 1) (h.length + 2) u1 (QdC p.decls)) ?_ ?_
    rotate_left
    · by_cases q0 : p.decls = []
      · have z0 : ¬ (p.decls.length : Int) > 0 := by rw [q0]; decide
        have eu1 : u1 = false := by rw [eu, decide_eq_true q0]; rfl
        repeat (first | (((with_reducible refine Qa fun K E hK hE => ?_)); simp -implicitDefEqProofs only [Qf, Qb, Qi, OpW, aop, AS.ev, Qc, Qq, Qm, Qr, ↓reduceIte, Nat.reduceLT, Nat.reduceEqDiff, Nat.add_zero, Ql, QI, QJ, aBin, aLen, List.getElem?_cons_zero, Option.map_some, Q6, goInt, decide_false, ti33, un33, Qcp, g0, z0, QF]) | (with_reducible (first | refine Qt ?_ | refine Qe ?_)) | ((with_reducible refine hK _ ?_); clear hK) | (refine Qj rfl ?_; simp only [↓reduceIte, Bool.false_eq_true]))
        rw [eu1, QdC, if_pos q0]
        exact ⟨rfl, rfl, rfl⟩
      · have hq : p.decls.length ≠ 0 := fun e => q0 (List.length_eq_zero_iff.1 e)
        have z0 : (p.decls.length : Int) > 0 := by omega
        have eu1 : u1 = true := by rw [eu, decide_eq_false q0]; rfl
        have c := QjM p.decls hv hd _ (hGs false .empty)
        have hsa1 := fun xo yo => ZZ Tryz.prog 9 xo yo conB (jD p.decls) (by omega)
        have hsa2 := fun xo yo => ZZ Tryz.prog 9 xo yo (conB ++ jD p.decls) endB (by rw [Qu]; omega)
        have w := sstr hi hj hij false .empty ((conB ++ jD p.decls) ++ endB) (by simp only [Qu]; have : ByteArray.empty.size = 0 := rfl; omega)
        rw [ByteArray.empty_append] at w
        repeat (first | ((first | (with_reducible (first | refine Qa fun K E hK hE => ?_ | refine Qn fun K E hK hE => ?_ | refine FunW.ret (FunW.call c) ?_ | refine FunW.ret (FunW.call w) ?_))); simp -implicitDefEqProofs only [Qf, Qb, Qi, OpW, QW, aop, AS.ev, Qc, Qq, QM, Qm, Qr, ↓reduceIte, Nat.reduceLT, Nat.reduceEqDiff, Nat.add_zero, Ql, QI, QJ, aBin, aLen, List.getElem?_cons_zero, Option.map_some, List.map_cons, List.map_nil, Q6, goInt, decide_true, ti33, un33, Qcp, g0, z0, QF, hsa1, hsa2]) | (with_reducible refine Qe ?_) | ((with_reducible refine hK _ ?_); clear hK) | (refine Qj rfl ?_; simp only [↓reduceIte]))
        rw [eu1, QdC, if_neg q0]
        exact ⟨rfl, rfl, rfl⟩
    rintro ⟨tm, hp⟩ ⟨t1, t3, hh⟩
    dsimp only at t1 t3 hh
    subst hh
    have f1 := fun u tx => (Qgs (H0 ++ [AB.dead, AB.dead]) (h.length + 1) (h.length + 2) u tx).trans hle
    have f3 : ∀ u tx L k, (HS (H0 ++ [AB.dead, AB.dead]) (h.length + 1) (h.length + 2) u tx ++ L)[h.length + 3 + k]? = L[k]? := fun u tx L k => by rw [← hle]; exact Qgp _ _ _ u tx L k
    have f2 : ∀ u tx L, (HS (H0 ++ [AB.dead, AB.dead]) (h.length + 1) (h.length + 2) u tx ++ L)[h.length + 3]? = L[0]? := fun u tx L => f3 u tx L 0
    have f5 : ∀ u tx z L k, (HS (H0 ++ [AB.dead, AB.dead]) (h.length + 1) (h.length + 2) u tx ++ L).set (h.length + 3 + k) z = HS (H0 ++ [AB.dead, AB.dead]) (h.length + 1) (h.length + 2) u tx ++ L.set k z := fun u tx z L k => by rw [← hle]; exact QdX _ _ _ u tx z L k
    have f4 : ∀ u tx z L, (HS (H0 ++ [AB.dead, AB.dead]) (h.length + 1) (h.length + 2) u tx ++ L).set (h.length + 3) z = HS (H0 ++ [AB.dead, AB.dead]) (h.length + 1) (h.length + 2) u tx ++ L.set 0 z := fun u tx z L => f5 u tx z L 0
    have gapp := fun u tx L => Qgi (h := H0 ++ [AB.dead, AB.dead]) (i := h.length + 1) (j := h.length + 2) hi hj u tx L
    have htk : ∀ u tx L, (HS (H0 ++ [AB.dead, AB.dead]) (h.length + 1) (h.length + 2) u tx ++ L) = h ++ ([AB.cells 35 2 [.agg [.sl 2 (vs Dc.av p.decls) none, .sl 6 (vs Rl.av p.rules) none]], bw 74 (h.length + 1) (h.length + 2) u tx, AB.grow 5 1 tx.size] ++ L) := fun u tx L => by
      rw [← List.append_assoc]; congr 1; rw [eH]; simp [HS, hs2]
    repeat (first | (((with_reducible refine Qa fun K E hK hE => ?_)); simp -implicitDefEqProofs only [Qf, Qb, Qi, OpW, aop, AS.ev, Qc, Qq, Qm, Qr, ↓reduceIte, Nat.reduceLT, Nat.zero_add, Ql, QI, QJ, aLen, List.getElem?_cons_zero, List.getElem?_cons_succ, Option.map_some, goInt, ti27, un27, Qex, g0, t1, QF]) | (with_reducible (first | refine Qh fun K hK => ?_ | refine Qk ?_)) | ((with_reducible refine hK _ ?_); clear hK))
    obtain ⟨I, hI⟩ : ∃ I : Nat → AS → Prop, I = fun m' s => ∃ (k : Nat) (cur : ByteArray), m' = p.rules.length - k ∧ k ≤ p.rules.length ∧ cur ++ Qdj (p.rules.drop k) = QdC p.decls ++ Qdj p.rules ∧ QaS p.rules = QaS (p.rules.drop k) ∧ cur.size ≤ 2000000000 + 16385 * k ∧ ((u1 || decide (0 < k)) = true → 0 < cur.size) ∧ s.tm 3 = .ptr (h.length + 1) 0 0 ∧ s.tm 32 = .sl 6 (vs Rl.av p.rules) none ∧ s.tm 33 = .i p.rules.length ∧ s.tm 34 = .i k ∧ (∃ L, s.h = HS (H0 ++ [AB.dead, AB.dead]) (h.length + 1) (h.length + 2) (u1 || decide (0 < k)) cur ++ L) := ⟨_, rfl⟩; refine Q4 I ?_ (m := p.rules.length) ?_
    · intro m' s hs; rw [hI] at hs; obtain ⟨tm, hp⟩ := s; dsimp only at hs; obtain ⟨k, cur, rfl, hk, he, hal, hcs, hcu, t3, t32, t33, t34, L, rfl⟩ := hs
      by_cases hlt : k < p.rules.length
      · have hg := YG Rl.av hlt
        have y1 : (k : Int) < p.rules.length := by omega
        obtain ⟨hag, hcl, hc1⟩ := Qjy p.rules[k]
        obtain ⟨b1, b2, b3, b4, b5⟩ := hf p.rules[k] (List.getElem_mem hlt)
        have c := QcM p.rules[k] b1 b2 b3 b4 b5 (HS (H0 ++ [AB.dead, AB.dead]) (h.length + 1) (h.length + 2) (u1 || decide (0 < k)) cur ++ (L ++ [AB.cells 25 6 [(p.rules[k]).av]])) (HasG.app (hGs _ _) _)
        have hsz := QgS p.rules[k]
        have hd1 : p.rules.drop k = p.rules[k] :: p.rules.drop (k + 1) := List.drop_eq_getElem_cons hlt
        rw [hd1] at he hal
        rw [Qdj] at he
        simp only [QaS, List.all_cons] at hal
        have ee : ((QbA p.rules[k]).toList == ({ data := #[] } : ByteArray).toList) = YH (QbA p.rules[k]) := rfl
        cases ce : YH (QbA p.rules[k])
        · rw [ce] at ee hal
          have glen : h.length + 1 < (H0 ++ [AB.dead, AB.dead] ++ (L ++ [AB.cells 25 6 [(p.rules[k]).av]])).length ∧ h.length + 2 < (H0 ++ [AB.dead, AB.dead] ++ (L ++ [AB.cells 25 6 [(p.rules[k]).av]])).length := by rw [List.length_append]; omega
          have w := sstr glen.1 glen.2 hij (u1 || decide (0 < k)) cur (QbA p.rules[k] ++ nlB) (by rw [Qu]; omega)
          rw [gapp, gapp] at w
          have hsa := fun xo yo => ZZ Tryz.prog 9 xo yo (QbA p.rules[k]) nlB (by omega)
          repeat (first | ((first | (with_reducible (first | refine Qa fun K E hK hE => ?_ | refine Qn fun K E hK hE => ?_ | refine FunW.ret (FunW.call c) ?_ | refine FunW.ret (FunW.call w) ?_))); simp -implicitDefEqProofs only [Qf, Qb, Qi, OpW, QW, aop, undef, AS.ev, Qc, QV, Qq, QM, Qm, AV.Qj3, Qr, QD, List.all_cons, List.all_nil, QB, Qw, QN, Bool.and_self, ↓reduceIte, List.length_cons, List.length_nil, Nat.reduceAdd, Nat.reduceLT, Nat.reduceEqDiff, Nat.zero_add, and_self, QI, QJ, Xb, QZ, QL, aBin, QX, X0, hlen, happ, List.getElem?_cons_zero, List.set_cons_zero, Option.map_some, List.map_cons, List.map_nil, QY, Xj, Xm, decide_true, Int.toNat_natCast, Int.natCast_nonneg, ti25, zi25, ei27, t3, t32, t33, t34, y1, hg, hag, hcl, hc1, f1, f3, f5, QF, ee, hsa]) | (with_reducible (first | refine Qh fun K hK => ?_ | refine Qk ?_ | refine Qt ?_ | refine Qe ?_ | refine Qs ?_)) | ((with_reducible refine hK _ ?_); clear hK) | (refine Qj rfl ?_; simp only [↓reduceIte, Bool.false_eq_true]))
          refine XE.mk (m' := p.rules.length - (k + 1)) (by omega) ?_
          rw [hI]
          refine ⟨k + 1, cur ++ (QbA p.rules[k] ++ nlB), rfl, hlt, by rw [ByteArray.append_assoc]; exact he, by rw [QaS, hal]; rfl, by rw [Qu, Qu]; omega, fun _ => by rw [Qu, Qu]; omega, t3, t32, t33, ?_, _, by rw [decide_eq_true (Nat.succ_pos k), Bool.or_true]⟩
          simp only [upd, ↓reduceIte]
          rw [Xf (by omega)]
        · rw [ce] at ee hal
          have R : Qbi p = { data := #[] } := by
            rw [Qbi, if_neg hno, if_pos hv, if_neg]
            rw [QaS, hal]; simp
          repeat (first | ((first | (with_reducible (first | refine Qa fun K E hK hE => ?_ | refine FunW.ret (FunW.call c) ?_))); simp -implicitDefEqProofs only [Qf, Qb, Qi, OpW, QW, aop, undef, AS.ev, Qc, QV, QM, Qm, AV.Qj3, Qr, QD, List.all_cons, List.all_nil, QB, Qw, QN, Bool.and_self, ↓reduceIte, List.length_cons, List.length_nil, Nat.reduceAdd, Nat.reduceLT, Nat.reduceEqDiff, Nat.zero_add, and_self, QI, QJ, Xb, QZ, QL, aBin, QX, X0, hlen, happ, List.getElem?_cons_zero, List.set_cons_zero, Option.map_some, List.map_cons, List.map_nil, QY, Xm, decide_true, Int.toNat_natCast, Int.natCast_nonneg, ti25, zi25, ei27, t32, t33, t34, y1, hg, hag, hcl, hc1, f1, f3, f5, QF, ee]) | (with_reducible (first | refine Qh fun K hK => ?_ | refine Qk ?_ | refine Qo ?_ | refine Qt ?_ | refine Qe ?_ | refine QA ?_ | refine QE ?_)) | ((with_reducible refine hK _ ?_); clear hK) | (refine Qj rfl ?_; simp only [↓reduceIte]))
          simp only [htk]
          simp only [QO, Qp, Qv, upd, ↓reduceIte, Option.some.injEq, exists_eq_left']; first | refine Qd (htake _ _) (.keep (.v _)) ⟨by rw [R], rfl⟩ | refine Qd List.take_length (.keep (.v _)) ⟨by rw [R], rfl⟩
      · have hkn : k = p.rules.length := by omega
        subst hkn
        have y1 : ¬ ((p.rules.length : Nat) : Int) < p.rules.length := by omega
        rw [List.drop_length] at he hal
        rw [Qdj, ByteArray.append_empty] at he
        have hu : (u1 || decide (0 < p.rules.length)) = true := by
          rw [eu]
          by_cases q0 : p.decls = []
          · have : p.rules.length ≠ 0 := fun e => q3 ⟨q0, List.length_eq_zero_iff.1 e⟩
            rw [decide_eq_true (show 0 < p.rules.length by omega), Bool.or_true]
          · rw [decide_eq_false q0]; rfl
        rw [hu]
        have h0 := hcu hu
        have c := (QaX (ty := 74) (i := h.length + 1) (j := h.length + 2) hij cur h0 (by omega)).app (h := H0 ++ [AB.dead, AB.dead]) hi hj L
        rw [← HS] at c
        have e2 : hs2 (H0 ++ [AB.dead, AB.dead]) (h.length + 1) (bw 74 (h.length + 1) (h.length + 2) true cur) (h.length + 2) .gone ++ L = h ++ ([AB.cells 35 2 [.agg [.sl 2 (vs Dc.av p.decls) none, .sl 6 (vs Rl.av p.rules) none]], bw 74 (h.length + 1) (h.length + 2) true cur, AB.gone] ++ L) := by
          rw [← List.append_assoc]; congr 1; rw [eH]; simp [hs2]
        rw [e2] at c
        have c3 := QaZ cur
        have R : Qbi p = Qa5 cur := by
          rw [Qbi, if_neg hno, if_pos hv, if_pos (by rw [hal]; rfl), he]
        repeat (first | ((first | (with_reducible (first | refine Qa fun K E hK hE => ?_ | refine FunW.ret (FunW.call c) ?_ | refine Qy c3 ?_))); simp -implicitDefEqProofs only [Qf, Qb, Qi, OpW, QW, aop, AS.ev, Qc, Qm, ↓reduceIte, Nat.reduceLT, Nat.reduceEqDiff, aBin, Option.map_some, List.map_cons, List.map_nil, List.cons_append, List.nil_append, QY, decide_false, t3, t33, t34, y1]) | (with_reducible (first | refine Qh fun K hK => ?_ | refine Qo ?_ | refine Q1 ?_ | refine Qe ?_ | refine QS ?_ | refine QR ?_)) | ((with_reducible refine hK _ ?_); clear hK) | (clear hK; (with_reducible refine hK _ ?_); clear hK) | (refine Qj rfl ?_; simp only [↓reduceIte, Bool.false_eq_true]))
        simp only [QO, Qp, Qv, upd, ↓reduceIte, Option.some.injEq, exists_eq_left']; first | refine Qd (htake _ _) (.keep (.v _)) ⟨by rw [R], rfl⟩ | refine Qd List.take_length (.keep (.v _)) ⟨by rw [R], rfl⟩
    · rw [hI]
      refine ⟨0, QdC p.decls, rfl, by omega, rfl, rfl, by omega, fun hu => ?_, t3, rfl, rfl, rfl, [], by rw [decide_eq_false (Nat.lt_irrefl 0), Bool.or_false, List.append_nil]⟩
      rw [decide_eq_false (Nat.lt_irrefl 0), Bool.or_false, eu] at hu
      rw [QdC, if_neg (by simpa using hu), Qu, Qu]
      omega
end Go.Proofs.YtenheconhibonaaGreatDoor.Ab
set_option linter.unusedSimpArgs false
set_option linter.unusedVariables false
set_option maxHeartbeats 4000000
set_option maxRecDepth 4000
namespace Go.Proofs.YtenheconhibonaaGreatDoor.Ab
open Go.Proofs
abbrev leqB : ByteArray := { data := #[108, 101, 113] }
def vT (i : Int) : T := .mk 1 i { data := #[] } []
def leqG (x y : Int) : G := ⟨0, leqB, [vT x, vT y]⟩
def exR : Rl := ⟨{ data := #[] }, [], [leqG 3 4, leqG 4 3], [], [⟨3, { data := #[] }, [vT 3, vT 4]⟩], 0⟩
def exP : Pg := ⟨[⟨leqB, 2⟩], [exR]⟩
def exN : Rl := ⟨{ data := #[] }, [], [], [], [], 0⟩
theorem QjU : numR exR = ⟨{ data := #[] }, [], [leqG 0 1, leqG 1 0], [], [⟨3, { data := #[] }, [vT 0, vT 1]⟩], 2⟩ := by kernel_rfl
theorem QjE : QbA exN = { data := #[] } := by kernel_rfl
theorem QjH : QbA exR = { data := #[108, 101, 113, 40, 86, 48, 44, 32, 86, 49, 41, 44, 32, 108, 101, 113, 40, 86, 49, 44, 32, 86, 48, 41, 32, 60, 61, 62, 32, 86, 48, 32, 61, 32, 86, 49, 46] } := by kernel_rfl
theorem QjA : Qbi exP = { data := #[99, 111, 110, 115, 116, 114, 97, 105, 110, 116, 32, 108, 101, 113, 47, 50, 46, 10, 108, 101, 113, 40, 86, 48, 44, 32, 86, 49, 41, 44, 32, 108, 101, 113, 40, 86, 49, 44, 32, 86, 48, 41, 32, 60, 61, 62, 32, 86, 48, 32, 61, 32, 86, 49, 46, 10] } := by kernel_rfl
theorem Qjf : QbZ exR.body = { data := #[86, 51, 32, 61, 32, 86, 52] } := by kernel_rfl
theorem Qco (i : Int) : Pure Tryz.prog 32 [.i i] (vT i).av := by
  intro h
  refine Qg Tryz.func32 rfl Tryz.call32 Tryz.ntmps32 (congrArg Array.toList Tryz.results32) (by simp) ?_
  repeat (first | (((with_reducible refine Qa fun K E hK hE => ?_)); simp -implicitDefEqProofs only [Qf, Qb, Qi, OpW, aop, undef, AS.ev, Qc, QV, Qq, Qm, QC, List.getD_cons_zero, AV.Qj3, Qr, Q3, QD, List.all_cons, List.all_nil, QB, Qw, QN, Bool.and_self, ↓reduceIte, List.length_cons, List.length_nil, Nat.reduceAdd, Nat.reduceLT, Nat.reduceLeDiff, Nat.reduceEqDiff, Nat.zero_add, and_self, Xb, QZ, Za, Zm, QX, X0, List.getElem?_cons_zero, List.getElem?_cons_succ, List.set_cons_zero, Option.map_some, List.map_cons, List.map_nil, List.cons_append, List.nil_append, List.take_succ_cons, List.take_zero, List.drop_succ_cons, List.drop_zero, ti69, zi69, sp69]) | (with_reducible refine Qo ?_) | ((with_reducible refine hK _ ?_); clear hK))
  simp -implicitDefEqProofs only [Qm, Qr, QD, ↓reduceIte, List.length_cons, List.length_nil, Nat.reduceAdd, Nat.reduceEqDiff, Nat.zero_add, and_self, QX, List.getElem?_cons_zero, Option.some.injEq, ti69, QI, QJ, QX, QO, Qp, Qv, exists_eq_left']
  refine Qd (r' := (vT i).av) (htake _ _) ?_ ⟨rfl, rfl⟩
  exact .agg rfl (QdV (.keep (.v _)) (QdV (.keep (.v _)) (QdV (.keep (.v _)) (QjD (.nil 4)))))
theorem Qgt (x y : Int) : Pure Tryz.prog 31 [.i x, .i y] (leqG x y).atom := by
  intro h
  have c1 := Qco x
  have c2 := Qco y
  refine Qg Tryz.func31 rfl Tryz.call31 Tryz.ntmps31 (congrArg Array.toList Tryz.results31) (by simp) ?_
  repeat (first | ((first | (with_reducible (first | refine Qa fun K E hK hE => ?_ | refine Qy c1 ?_ | refine Qy c2 ?_))); simp -implicitDefEqProofs only [Qf, Qb, Qi, OpW, QW, aop, undef, AS.ev, Qc, QV, QM, Qm, QC, List.getD_cons_zero, List.getD_cons_succ, AV.Qj3, Qr, Q3, Xp, QD, List.all_cons, List.all_nil, QB, Qw, QN, QH, Bool.and_self, ↓reduceIte, List.length_cons, List.length_nil, Nat.reduceAdd, Nat.reduceLT, Nat.reduceLeDiff, Nat.reduceEqDiff, Nat.reduceMul, Nat.zero_add, and_self, Xb, QZ, Za, Zm, Q5, QX, X0, List.getElem?_cons_zero, List.getElem?_cons_succ, List.set_cons_zero, Option.map_some, List.map_cons, List.map_nil, List.cons_append, List.nil_append, List.append_nil, List.take_succ_cons, List.take_zero, List.drop_succ_cons, List.drop_zero, beq_self_eq_true, rng2, Xa, Nat.reducePow, T.Qj2, ei44, ti66, zi66, sp66, zi69, T.Qj2]) | (with_reducible refine Qo ?_) | ((with_reducible refine hK _ ?_); clear hK))
  simp -implicitDefEqProofs only [Qm, Qr, QD, ↓reduceIte, List.length_cons, List.length_nil, Nat.reduceAdd, Nat.reduceEqDiff, Nat.zero_add, and_self, QX, List.getElem?_cons_zero, Option.some.injEq, ti66, QI, QJ, QX, QO, Qp, Qv, exists_eq_left']
  refine Qd (r' := (leqG x y).atom) (htake _ _) ?_ ⟨rfl, rfl⟩
  exact .keep (.agg _ (ZE _ (leqG x y)))
theorem QjL : WkL (flat [.agg [.v (.string { data := #[] }), .v (.slice none 0 0), .sl 2 [(leqG 3 4).atom, (leqG 4 3).atom] none, .v (.slice none 0 0), .sl 3 [.agg [.i 3, .v (.string { data := #[] }), .sl 4 [(vT 3).av, (vT 4).av] none]] none, .i 0]]) (flat [exR.av]) :=
  .cons (.refl _) (.cons (.nilS 2) (.cons (.refl _) (.cons (.nilS 3) (.cons (.refl _) (.cons (.refl _) .nil)))))
theorem QgE : exR.fits := by refine ⟨?_, ?_, ?_, ?_, ?_⟩ <;> decide
theorem QiP : exN.fits := by refine ⟨?_, ?_, ?_, ?_, ?_⟩ <;> decide
theorem Qfi (h : AH) (hG : Xu h) : XG Tryz.prog 9 [] h fun o h' => o = .ret (.b true) ∧ h' = h := by
  have v3 := Qco 3
  have v4 := Qco 4
  have q1 := Qgt 3 4
  have q2 := Qgt 4 3
  obtain ⟨a1, a2, a3, a4, a5⟩ := QgE
  obtain ⟨b1, b2, b3, b4, b5⟩ := QiP
  have cn := ZI exR a1 a2 a3 a4 a5
  rw [QjU] at cn
  have c1 := fun L => QcM exR a1 a2 a3 a4 a5 (h ++ L) (hG.app L)
  have c2 := fun L => QgW (args := [.agg [.v (.string { data := #[] }), .v (.slice none 0 0), .v (.slice none 0 0), .v (.slice none 0 0), .v (.slice none 0 0), .i 0]]) (.cons (.agg (.cons (.refl _) (.cons (.nilS 2) (.cons (.nilS 2) (.cons (.nilS 3) (.cons (.nilS 3) (.cons (.refl _) .nil))))))) .nil) (QcM exN b1 b2 b3 b4 b5 (h ++ L) (hG.app L))
  have c3 : ∀ L, XG Tryz.prog 16 [.agg [.sl 2 [.agg [.v (.string leqB), .i 2]] none, .sl 6 [exR.av] none]] (h ++ L) fun o h' => o = .ret (.v (.string (Qbi exP))) ∧ h' = h ++ L :=
    fun L => Qft exP (by decide) (by decide) (by intro r hr; rw [List.mem_singleton.1 hr]; exact QgE) (h ++ L) (hG.app L)
  have c4 := fun L => Qhl exR.body a4 (h ++ L) (hG.app L)
  rw [QjH] at c1
  rw [QjE] at c2
  rw [QjA] at c3
  rw [Qjf] at c4
  refine Qg Tryz.func9 rfl Tryz.call9 Tryz.ntmps9 (congrArg Array.toList Tryz.results9) (by simp) ?_
  iterate 8 (try (first | ((first | (with_reducible (first | refine Qa fun K E hK hE => ?_ | refine Qy v3 ?_ | refine Qy v4 ?_ | refine Qy q1 ?_ | refine Qy q2 ?_))); simp -implicitDefEqProofs only [Qf, Qb, Qi, OpW, QW, aop, undef, AS.ev, Qc, QV, Qq, Qz, Qm, QC, AV.Qj3, Qr, Q3, Xp, QD, List.all_cons, List.all_nil, QB, Qw, QN, QH, Bool.and_self, ↓reduceIte, List.length_cons, List.length_nil, Nat.reduceAdd, Nat.reduceLT, Nat.reduceLeDiff, Nat.reduceEqDiff, Nat.reduceMul, Nat.zero_add, and_self, Xb, QZ, Za, Zm, Q5, QX, X0, List.getElem?_cons_zero, List.getElem?_cons_succ, List.set_cons_zero, Option.map_some, List.map_cons, List.map_nil, List.cons_append, List.nil_append, List.append_nil, List.take_succ_cons, List.take_zero, List.drop_succ_cons, List.drop_zero, beq_self_eq_true, rng1, rng2, Xa, Nat.reducePow, T.Qj2, ei22, ei23, ti25, zi25, sp25, ei44, zi53, sp53, zi66, zi69, T.Qj2, XI]) | ((with_reducible refine hK _ ?_); clear hK)))
  refine Qc3 h.length 25 6 _ [exR.av] (by simp only [QX, List.getElem?_cons_zero]) (by intro x hx; simp at hx; subst hx; rfl) QjL ?_
  simp only [X0, List.set_cons_zero]
  clear v3 v4 q1 q2
  iterate 5 (try (first | ((first | (with_reducible (first | refine Qa fun K E hK hE => ?_ | refine Qy cn ?_))); simp -implicitDefEqProofs only [Qf, Qb, Qi, OpW, QW, aop, undef, AS.ev, Qc, QV, Qq, QM, Qm, QC, AV.Qj3, Qr, Q3, Xp, QD, List.all_cons, List.all_nil, QB, Qw, QN, QH, Bool.and_self, ↓reduceIte, List.length_cons, List.length_nil, Nat.reduceAdd, Nat.reduceLT, Nat.reduceLeDiff, Nat.reduceEqDiff, Nat.reduceMul, Nat.zero_add, and_self, QI, QJ, Xb, QZ, Za, Zm, Q5, QX, hget, hset, hlen, happ, List.getElem?_cons_zero, List.getElem?_cons_succ, List.set_cons_zero, List.set_cons_succ, Option.map_some, List.map_cons, List.map_nil, List.cons_append, List.nil_append, List.append_nil, List.take_succ_cons, List.take_zero, List.drop_succ_cons, List.drop_zero, beq_self_eq_true, rng1, Xa, Nat.reducePow, ti25, zi25, ei27, ei33, ti35, zi35, sp35, zi38, sp38, Rl.cells, Rl.isAgg]) | ((with_reducible refine hK _ ?_); clear hK)))
  have z2 : ((2 : Int) == 2) = true := by decide
  have z2' : (((2 : Nat) : Int) == 2) = true := by decide
  (with_reducible refine Qa fun K E hK hE => ?_)
  (try simp only [List.toList_toArray]); refine QT 4 (fun K1 hK1 => ?_); simp -implicitDefEqProofs only [Qb, Qi, OpW, aop, AS.ev, Qc, Qm, ↓reduceIte, List.length_cons, List.length_nil, Nat.reduceAdd, Nat.reduceLT, Nat.reduceEqDiff, Nat.zero_add, and_self, QI, QJ, QX, List.getElem?_cons_zero, Option.map_some, List.map_cons, List.map_nil, List.take_succ_cons, List.take_zero, ti25, Rl.cells, Rl.isAgg]; (repeat ((((with_reducible refine FunW.ret (FunW.call (c1 _)) ?_)); simp -implicitDefEqProofs only [Qf, Qb, Qi, OpW, QW, aop, AS.ev, Qc, QM, Qm, ↓reduceIte, Nat.reduceLT, aBin, Option.map_some, Xm, beq_self_eq_true]))); refine hK1 _ ?_; clear hK1
  (try simp only [List.drop_succ_cons, List.drop_zero]); refine QT 5 (fun K1 hK1 => ?_); simp -implicitDefEqProofs only [Qf, Qb, Qi, OpW, aop, AS.ev, Qc, Qq, Qm, ↓reduceIte, Nat.reduceLT, Nat.reduceEqDiff, Nat.zero_add, Ql, QI, QJ, aBin, hget, List.getElem?_cons_zero, List.getElem?_cons_succ, Option.map_some, Option.bind_some, List.getElem?_toArray, List.take_succ_cons, List.take_zero, QU, beq_self_eq_true, ti3, ZT, Rl.cells]; refine hK1 _ ?_; clear hK1
  (try simp only [List.drop_succ_cons, List.drop_zero]); refine QT 5 (fun K1 hK1 => ?_); simp -implicitDefEqProofs only [Qf, Qb, Qi, OpW, aop, AS.ev, Qc, Qq, Qm, ↓reduceIte, List.length_cons, List.length_nil, Nat.reduceAdd, Nat.reduceLT, Nat.reduceEqDiff, Nat.zero_add, Ql, QI, QJ, aBin, aLen, hget, List.getElem?_cons_zero, List.getElem?_cons_succ, Option.map_some, Option.bind_some, List.getElem?_toArray, List.take_succ_cons, List.take_zero, QU, goInt, beq_self_eq_true, ti22, un22, X1, Rl.cells, QF, z2']; refine hK1 _ ?_; clear hK1
  (try simp only [List.drop_succ_cons, List.drop_zero]); refine QT 5 (fun K1 hK1 => ?_); simp -implicitDefEqProofs only [Qb, Qi, OpW, aop, AS.ev, Qc, Qm, Qr, QD, ↓reduceIte, List.length_cons, List.length_nil, Nat.reduceAdd, Nat.reduceLT, Nat.reduceEqDiff, Nat.zero_add, and_self, QI, QJ, hget, List.getElem?_cons_zero, List.getElem?_cons_succ, Option.map_some, Option.bind_some, List.getElem?_toArray, List.map_cons, List.map_nil, List.take_succ_cons, List.take_zero, beq_self_eq_true, ti35]; (repeat ((((with_reducible refine FunW.ret (FunW.call (c3 _)) ?_)); simp -implicitDefEqProofs only [Qf, Qb, Qi, OpW, QW, aop, AS.ev, Qc, QM, Qm, ↓reduceIte, Nat.reduceLT, Nat.reduceEqDiff, aBin, List.getElem?_cons_zero, List.getElem?_cons_succ, Option.map_some, Option.bind_some, List.getElem?_toArray, Xm, beq_self_eq_true]))); refine hK1 _ ?_; clear hK1
  (try simp only [List.drop_succ_cons, List.drop_zero]); refine QT 6 (fun K1 hK1 => ?_); simp -implicitDefEqProofs only [Qb, Qi, OpW, aop, AS.ev, Qc, Qm, ↓reduceIte, Nat.reduceLT, Nat.reduceEqDiff, Nat.zero_add, Ql, QI, QJ, QX, List.getElem?_cons_zero, List.getElem?_cons_succ, Option.map_some, Option.bind_some, List.getElem?_toArray, List.map_cons, List.map_nil, List.take_succ_cons, List.take_zero, beq_self_eq_true, ti23, X9, Rl.cells]; (repeat ((((with_reducible refine FunW.ret (FunW.call (c4 _)) ?_)); simp -implicitDefEqProofs only [Qf, Qb, Qi, OpW, QW, aop, AS.ev, Qc, QM, Qm, ↓reduceIte, Nat.reduceLT, Nat.reduceEqDiff, aBin, List.getElem?_cons_zero, List.getElem?_cons_succ, Option.map_some, Option.bind_some, List.getElem?_toArray, Xm, beq_self_eq_true]))); refine hK1 _ ?_; clear hK1
  (try simp only [List.drop_succ_cons, List.drop_zero])
  simp -implicitDefEqProofs only [Qb, Qi, OpW, aop, undef, AS.ev, Qc, Qm, QC, AV.Qj3, Qr, QD, List.all_cons, List.all_nil, QB, Qw, QN, Bool.and_self, ↓reduceIte, Nat.reduceLT, Nat.reduceEqDiff, and_self, Za, Zm, List.getElem?_cons_zero, List.getElem?_cons_succ, Option.map_some, Option.bind_some, List.getElem?_toArray, List.map_cons, List.map_nil, beq_self_eq_true, zi25, sp25]
  repeat (first | (((with_reducible refine FunW.ret (FunW.call (c2 _)) ?_)); simp -implicitDefEqProofs only [Qf, Qb, Qi, OpW, QW, aop, AS.ev, Qc, QM, Qm, ↓reduceIte, Nat.reduceLT, Nat.reduceEqDiff, aBin, List.getElem?_cons_zero, List.getElem?_cons_succ, Option.map_some, Option.bind_some, List.getElem?_toArray, Xm, beq_self_eq_true]) | (with_reducible refine Qo ?_) | ((with_reducible refine hK _ ?_); clear hK))
  simp only [QO, Qp, Qv, upd, ↓reduceIte, Option.some.injEq, exists_eq_left']
  exact Qd (htake _ _) (.keep (.v _)) ⟨rfl, rfl⟩
end Go.Proofs.YtenheconhibonaaGreatDoor.Ab
