/-
  An abstract program logic, contracts of functions, and laws of terms and rules (part 4).
-/
import Derived.Test.YtehjodmnajgdgaaGreatDoorAbThree
import Derived.Test.YtehjodmnajgdgaaGreatDoorAbTwo
import Derived.Lib.ItoaNum
import Derived.Lib.AtoiAllCases
set_option linter.unusedVariables false
set_option linter.unusedSimpArgs false
set_option maxHeartbeats 4000000
set_option maxRecDepth 4000
namespace Go.Proofs.YtehjodmnajgdgaaGreatDoor.Ab
open Go.Proofs
theorem Qhb (fv : AV) : Pure Tryz.prog 32 [.b false, fv] (.v (.string { data := #[] })) := by
  intro h
  refine Qe Tryz.func32 rfl Tryz.call32 Tryz.ntmps32 (congrArg Array.toList Tryz.results32) (by simp) ?_
  repeat (first | (((with_reducible refine Qa fun K E hK hE => ?_)); simp -implicitDefEqProofs only [Qd, Qb, Qf, OpW, aop, undef, AS.ev, Qc, QO, Qg, Qv, QmZ, Qng, ↓reduceIte, Nat.reduceLT, Nat.reduceEqDiff, QmU, Xp]) | (with_reducible (first | refine Qi fun K hK => ?_ | refine Qm ?_ | refine QA ?_)) | ((with_reducible refine hK _ ?_); clear hK) | (refine Qk rfl ?_; simp only [↓reduceIte]))
  simp only [QN, Qp, Qw, upd, ↓reduceIte, QmY, Qm2]; first | refine Qh (htake _ _) (.keep (.v _)) ⟨rfl, rfl⟩ | refine Qh List.take_length (.keep (.v _)) ⟨rfl, rfl⟩
theorem Qff (fv r : AV) (s : ByteArray) (h : AH) (h0 : 0 < s.size) (hs : s.size ≤ 140737488355328)
    (hw : FunW Tryz.prog fv [.ptr h.length 0 0] (HB (h ++ [AB.dead, AB.dead]) h.length (h.length + 1) false .empty) fun o h' => o = .ret r ∧ h' = HB (h ++ [AB.dead, AB.dead]) h.length (h.length + 1) true s) :
    Xf Tryz.prog 32 [.b true, fv] h fun o h' => o = .ret (.v (.string s)) ∧ h' = h := by
  have hi : h.length < (h ++ [AB.dead, AB.dead]).length := by simp
  have hj : h.length + 1 < (h ++ [AB.dead, AB.dead]).length := by simp
  have e0 : HB (h ++ [AB.dead, AB.dead]) h.length (h.length + 1) false .empty = h ++ [AB.cells 71 2 [.agg [.v (.pointer none), .sl 1 [] (some (h.length + 1))]], AB.grow 5 1 0] := by
    simp [HB, hs2, bw]; rfl
  have e1 : HB (h ++ [AB.dead, AB.dead]) h.length (h.length + 1) true s = h ++ [bw 71 h.length (h.length + 1) true s, AB.grow 5 1 s.size] := by
    simp [HB, hs2]
  have c1 := Qie (ty := 71) (i := h.length) (j := h.length + 1) (by omega) s h0 hs (h ++ [AB.dead, AB.dead]) hi hj
  have e2 : hs2 (h ++ [AB.dead, AB.dead]) h.length (bw 71 h.length (h.length + 1) true s) (h.length + 1) .gone = h ++ [bw 71 h.length (h.length + 1) true s, AB.gone] := by
    simp [hs2]
  rw [e2, ← HB, e1] at c1
  rw [e1, e0] at hw
  refine Qe Tryz.func32 rfl Tryz.call32 Tryz.ntmps32 (congrArg Array.toList Tryz.results32) (by simp) ?_
  repeat (first | (((with_reducible refine Qa fun K E hK hE => ?_)); simp -implicitDefEqProofs only [Qd, Qb, Qf, OpW, aop, undef, AS.ev, Qc, QO, Qg, Qv, QmZ, Qni, AV.Qmr, Qo, Qnc, Qnd, QE, XH, Qne, Qnf, ↓reduceIte, Qm5, Qm6, Nat.reduceAdd, Nat.reduceLT, Nat.reduceEqDiff, Qm4, QmU, Qm7, Qnb, Xp, zi71]) | (with_reducible (first | refine Qi fun K hK => ?_ | refine QD ?_ | refine Qj ?_)) | ((with_reducible refine hK _ ?_); clear hK) | (refine Qk rfl ?_; simp only [↓reduceIte, QmW]))
  refine Qg4 h.length 71 5 (.pointer none) (by simp) ?_
  refine FunW.ret (h' := h ++ [bw 71 h.length (h.length + 1) true s, AB.grow 5 1 s.size]) (r := r) (by simpa using hw) ?_
  rw [bw1] at c1 ⊢
  simp -implicitDefEqProofs only [Qd, QQ, Qc, Nat.reduceLT]
  repeat (first | ((first | (with_reducible (first | refine Qa fun K E hK hE => ?_ | refine FunW.ret (FunW.call c1) ?_))); simp -implicitDefEqProofs only [Qd, Qb, Qf, OpW, QQ, aop, AS.ev, Qc, Qg, ↓reduceIte, Nat.reduceLT, Nat.reduceEqDiff, Qnh, Ql, Q0, QmS, QmU, Qm7, Qnb, Zd]) | (with_reducible refine Qm ?_) | ((with_reducible refine hK _ ?_); clear hK))
  simp only [QN, Qp, Qw, upd, ↓reduceIte, QmY, Qm2]; first | refine Qh (htake _ _) (.keep (.v _)) ⟨rfl, rfl⟩ | refine Qh List.take_length (.keep (.v _)) ⟨rfl, rfl⟩
end Go.Proofs.YtehjodmnajgdgaaGreatDoor.Ab
set_option maxRecDepth 4000
namespace Go.Proofs.YtehjodmnajgdgaaGreatDoor.Ab
open Go.Proofs
def Yp (s : ByteArray) : Bool := decide (Qb2 1 s) && !resB s
def ZX (s : ByteArray) : Bool := s.toList == ({ data := #[] } : ByteArray).toList
mutual
def T.run : T → Int → Int → Bool × Int
 | .mk k i n l, b, d =>
  if b - 1 < 0 ∨ d < 1 then (false, b - 1) else
  if k = 0 then (decide (-2147483648 ≤ i ∧ i ≤ 2147483648) && ZX n && l.isEmpty, b - 1) else
  if k = 1 then (decide (0 ≤ i ∧ i ≤ 1048576) && ZX n && l.isEmpty, b - 1) else
  if k = 2 then (if i ≠ 0 ∨ 6 < l.length then (false, b - 1) else if (!Yp n && !(opB n && decide (l.length = 2))) = true then (false, b - 1) else runL l (b - 1) (d - 1)) else (false, b - 1)
def runL : List T → Int → Int → Bool × Int
 | [], b, d => (true, b)
 | t :: l, b, d => if (t.run b d).1 = true then runL l (t.run b d).2 d else (false, (t.run b d).2)
end
theorem T.run_eq (t : T) (b d : Int) : t.run b d = if b - 1 < 0 ∨ d < 1 then (false, b - 1) else
  if t.kind = 0 then (decide (-2147483648 ≤ t.int ∧ t.int ≤ 2147483648) && ZX t.name && t.args.isEmpty, b - 1) else
  if t.kind = 1 then (decide (0 ≤ t.int ∧ t.int ≤ 1048576) && ZX t.name && t.args.isEmpty, b - 1) else
  if t.kind = 2 then (if t.int ≠ 0 ∨ 6 < t.args.length then (false, b - 1) else if (!Yp t.name && !(opB t.name && decide (t.args.length = 2))) = true then (false, b - 1) else runL t.args (b - 1) (d - 1)) else (false, b - 1) := by
 cases t; rw [T.run]; rfl
theorem QjP {l : List T} {k : Nat} (h : k < l.length) (b d : Int) : runL (l.drop k) b d = if ((l[k]).run b d).1 = true then runL (l.drop (k + 1)) ((l[k]).run b d).2 d else (false, ((l[k]).run b d).2) := by
 rw [List.drop_eq_getElem_cons h]; simp only [runL]
def bud (b : Int) : AB := .cells 91 1 [.agg [.i b]]
theorem QjT (d : Int) (ih : ∀ (t : T) (b : Int) (i : Nat), -1 ≤ b → b ≤ 1000 → Chg Tryz.prog 67 [.ptr i 0 0, t.av, .i d] i (bud b) (.b (t.run b d).1) (bud (t.run b d).2))
  (l : List T) (hl : l.length ≤ 1000) (b : Int) (i : Nat) (hb : -1 ≤ b ∧ b ≤ 1000) (hr : ∀ (t : T) (b : Int), -1 ≤ b ∧ b ≤ 1000 → (t.run b d).1 = true → -1 ≤ (t.run b d).2 ∧ (t.run b d).2 ≤ 1000) :
  Chg Tryz.prog 78 [.ptr i 0 0, .sl 4 (avs l) none, .i d] i (bud b) (.b (runL l b d).1) (bud (runL l b d).2) := by
 intro h hi
 have f1 := fun x => Xw h i x
 refine Qe Tryz.func78 rfl Tryz.call78 Tryz.ntmps78 (congrArg Array.toList Tryz.results78) (by simp) ?_
 repeat (first | (((with_reducible refine Qa fun K E hK hE => ?_)); simp -implicitDefEqProofs only [Qd, Qb, Qf, OpW, aop, undef, AS.ev, Qc, Qn, Qt, Qg, Qv, QmZ, Qni, ↓reduceIte, Nat.reduceLT, Nat.reduceEqDiff, aLen, QmU, goInt, QK, un22, QK]) | (with_reducible (first | refine Qi fun K hK => ?_ | refine Qq ?_)) | ((with_reducible refine hK _ ?_); clear hK))
 obtain ⟨I, hI⟩ : ∃ I : Nat → AS → Prop, I = fun m' s => ∃ (k : Nat) (b' : Int), m' = l.length - k ∧ k ≤ l.length ∧ (-1 ≤ b' ∧ b' ≤ 1000) ∧ runL l b d = runL (l.drop k) b' d ∧ s.tm 0 = .ptr i 0 0 ∧ s.tm 1 = .sl 4 (avs l) none ∧ s.tm 2 = .i d ∧ s.tm 9 = .i l.length ∧ s.tm 10 = .i k ∧ s.h = hs h i (bud b') := ⟨_, rfl⟩; refine XJ I ?_ (m := l.length) ?_
 ·intro m' s hs; rw [hI] at hs; obtain ⟨tm, hp⟩ := s; dsimp only at hs; obtain ⟨k, b', rfl, hk, hb', he, t0, t1, t2, t9, t10, rfl⟩ := hs
  by_cases hlt : k < l.length
  ·have hg := ZU hlt
   have c := ih l[k] b' i hb'.1 hb'.2 h hi
   rw [QjP hlt] at he
   cases hr1 : ((l[k]).run b' d).1 with
   | true =>
    rw [hr1] at c he
    repeat (first | ((first | (with_reducible (first | refine Qa fun K E hK hE => ?_ | refine Qr fun K E hK hE => ?_ | refine FunW.ret (FunW.call c) ?_))); simp -implicitDefEqProofs only [Qd, Qb, Qf, OpW, QQ, aop, AS.ev, Qc, Qn, Qg, Qnf, ↓reduceIte, Qm5, Qm6, Nat.reduceAdd, Nat.reduceLT, Nat.reduceEqDiff, Qm4, Qnq, QG, QH, Xg, aBin, QmU, Qm7, Qnb, Q3, XK, Xp, Qno, Qnv, Qnu, QnG, T.Qmp, T.Qmq, QK, ei22, ti24, t0, t1, t2, t9, t10, hlt, hg, T.Qmq, T.Qmp]) | (with_reducible (first | refine Qi fun K hK => ?_ | refine Qq ?_ | refine QD ?_ | refine Qj ?_ | refine QF ?_)) | ((with_reducible refine hK _ ?_); clear hK) | (refine Qk rfl ?_; simp only [↓reduceIte, QmW]))
    refine Yo.mk (m' := l.length - (k + 1)) (by omega) ?_
    rw [hI]
    refine ⟨k + 1, _, rfl, hlt, hr _ _ hb' hr1, by rw [he, if_pos rfl], t0, t1, t2, t9, ?_, rfl⟩
    simp only [upd, ↓reduceIte]
    rw [Zi (by omega)]
   | false =>
    rw [hr1] at c he
    rw [if_neg (by simp)] at he
    repeat (first | ((first | (with_reducible (first | refine Qa fun K E hK hE => ?_ | refine FunW.ret (FunW.call c) ?_))); simp -implicitDefEqProofs only [Qd, Qb, Qf, OpW, QQ, aop, AS.ev, Qc, Qt, Qg, Qng, ↓reduceIte, Qm5, Qm6, Nat.reduceAdd, Nat.reduceLT, Nat.reduceEqDiff, Qm4, Qnq, QG, QH, Xg, aBin, QmU, Qm7, Qnb, Q3, Xp, Qno, Qnv, Qnu, QnG, T.Qmp, T.Qmq, QK, ei22, ti24, t0, t1, t2, t9, t10, hlt, hg, T.Qmq, T.Qmp]) | (with_reducible (first | refine Qi fun K hK => ?_ | refine Qq ?_ | refine Qm ?_ | refine QD ?_ | refine Qj ?_ | refine QA ?_ | refine QJ ?_)) | ((with_reducible refine hK _ ?_); clear hK) | (refine Qk rfl ?_; simp only [↓reduceIte]))
    simp only [QN, Qp, Qw, upd, ↓reduceIte, QmY, Qm2]
    rw [he]
    exact .inr ⟨rfl, rfl⟩
  ·have hkn : k = l.length := by omega
   subst hkn
   rw [List.drop_length] at he
   repeat (first | (((with_reducible refine Qa fun K E hK hE => ?_)); simp -implicitDefEqProofs only [Qd, Qb, Qf, OpW, aop, AS.ev, Qc, Qt, Nat.reduceLT, aBin, QmU, Q3, Qnp, QnG, t9, t10, hlt]) | (with_reducible (first | refine Qi fun K hK => ?_ | refine Qm ?_ | refine Xb ?_ | refine Qj ?_ | refine Q5 ?_ | refine Q4 ?_)) | ((with_reducible refine hK _ ?_); clear hK) | (clear hK; (with_reducible refine hK _ ?_); clear hK) | (refine Qk rfl ?_; simp only [↓reduceIte, QmW]))
   simp only [QN, Qp, Qw, upd, ↓reduceIte, QmY, Qm2]
   rw [he]
   exact .inr ⟨rfl, rfl⟩
 ·rw [hI]
  exact ⟨0, b, rfl, by omega, hb, rfl, rfl, rfl, rfl, rfl, rfl, rfl⟩
mutual
theorem T.QmE : ∀ (t : T) (b d : Int), -1 ≤ b ∧ b ≤ 1000 → (t.run b d).1 = true → -1 ≤ (t.run b d).2 ∧ (t.run b d).2 ≤ 1000
 | .mk k i n l, b, d, hb, h => by
  rw [T.run] at h ⊢
  split at h
  ·cases h
  rename_i hn
  rw [if_neg hn]
  split at h
  ·rename_i hk; rw [if_pos hk]; exact ⟨by simp only; omega, by simp only; omega⟩
  rename_i hk; rw [if_neg hk]
  split at h
  ·rename_i hk; rw [if_pos hk]; exact ⟨by simp only; omega, by simp only; omega⟩
  rename_i hk; rw [if_neg hk]
  split at h
  ·rename_i hk2
   rw [if_pos hk2]
   split at h
   ·cases h
   rename_i hk; rw [if_neg hk]
   split at h
   ·cases h
   rename_i hk; rw [if_neg hk]
   exact Qde l _ _ (by omega) h
  ·cases h
theorem Qde : ∀ (l : List T) (b d : Int), -1 ≤ b ∧ b ≤ 1000 → (runL l b d).1 = true → -1 ≤ (runL l b d).2 ∧ (runL l b d).2 ≤ 1000
 | [], b, d, hb, h => by simpa only [runL] using hb
 | t :: l, b, d, hb, h => by
  rw [runL] at h ⊢
  split at h
  ·rename_i ht
   rw [if_pos ht]
   exact Qde l _ _ (T.QmE t b d hb ht) h
  ·cases h
end
theorem XV (n : Nat) (b : Int) : (bud b).Below n := fun a ha => by
 simp [flat, AV.cells] at ha
 subst ha; exact .v _
theorem QfF : ∀ (dn : Nat) (t : T) (b : Int) (i : Nat), dn ≤ 1000 → -1 ≤ b → b ≤ 1000 → Chg Tryz.prog 67 [.ptr i 0 0, t.av, .i (dn : Int)] i (bud b) (.b (t.run b dn).1) (bud (t.run b dn).2) := by
 intro dn
 induction dn with
 | zero =>
  intro t b i hdn hb0 hb1 h hi
  have w1 : IntKind.i64.wrap (b - 1) = b - 1 := YP (by omega)
  have f1 := fun x L => Qbd hi x L
  have f2 := fun x y L => Qcm hi x y L
  have f3 := fun x L => Yg (h := h) (i := i) x L
  have f4 := fun x => Xw h i x
  have fb : ∀ b, bud b = .cells 91 1 [.agg [.i b]] := fun _ => rfl
  by_cases m0 : b - 1 < 0
  ·have hn : (b - 1 < 0 ∨ ((0 : Nat) : Int) < 1) := .inl m0
   have R : t.run b ((0 : Nat) : Int) = (false, b - 1) := by
    rw [T.run_eq, if_pos hn]
   rw [R]
   refine Qe Tryz.func67 rfl Tryz.call67 Tryz.ntmps67 (congrArg Array.toList Tryz.results67) (by simp) ?_
   repeat (first | (((with_reducible refine Qa fun K E hK hE => ?_)); simp -implicitDefEqProofs only [Qd, Qb, Qf, OpW, aop, undef, AS.ev, Qc, QL, Qn, Qt, Qg, Qv, QmZ, Qni, AV.Qmr, Qo, QT, QB, Q7, Qnc, Qnd, Qs, Qu, QI, Qne, Qnf, ↓reduceIte, Qm5, Qm6, Nat.reduceAdd, Nat.reduceLT, Nat.reduceLeDiff, Nat.reduceEqDiff, Qm4, Qnh, Qnr, Qnq, Ql, QG, QH, QW, QM, aBin, QmS, QmT, Qnm, QmU, QmX, QmV, Qnj, Qnl, Qna, Qm1, Qm9, Q3, Zc, Qno, QnE, QmW, beq_false, T.Qmp, ti3, Zm, QC, w1, f1, f2, f4, fb, m0, T.Qmp]) | (with_reducible (first | refine Qi fun K hK => ?_ | refine Qm ?_ | refine QA ?_)) | ((with_reducible refine hK _ ?_); clear hK) | (refine Qk rfl ?_; simp only [↓reduceIte]))
   simp only [QN, Qp, Qw, upd, ↓reduceIte, QmY, Qm2]
   exact Xa (XV _ _) (.keep (.v _)) ⟨rfl, rfl⟩
  ·have hn : (b - 1 < 0 ∨ ((0 : Nat) : Int) < 1) := .inr (by omega)
   have d0 : (0 : Int) < 1 := by omega
   have R : t.run b ((0 : Nat) : Int) = (false, b - 1) := by
    rw [T.run_eq, if_pos hn]
   rw [R]
   refine Qe Tryz.func67 rfl Tryz.call67 Tryz.ntmps67 (congrArg Array.toList Tryz.results67) (by simp) ?_
   repeat (first | (((with_reducible refine Qa fun K E hK hE => ?_)); simp -implicitDefEqProofs only [Qd, Qb, Qf, OpW, aop, undef, AS.ev, Qc, QL, Qn, Qt, Qg, Qv, QmZ, Qni, AV.Qmr, Qo, QT, QB, Q7, Qnc, Qnd, Qs, Qu, QI, Qne, ↓reduceIte, Qm5, Qm6, Nat.reduceAdd, Nat.reduceLT, Nat.reduceLeDiff, Nat.reduceEqDiff, Qm4, Qnh, Qnr, Qnq, Ql, QG, QH, QW, QM, aBin, QmS, QmT, Qnm, QmU, QmX, QmV, Qnj, Qnl, Qna, Qm1, Qm9, Q3, Zc, Qno, Qnp, Qm0, QnE, QmW, T.Qmp, ti3, Zm, QC, w1, f1, f2, f4, fb, m0, d0, T.Qmp]) | (with_reducible (first | refine Qi fun K hK => ?_ | refine Qm ?_ | refine QA ?_)) | ((with_reducible refine hK _ ?_); clear hK) | (refine Qk rfl ?_; simp only [↓reduceIte]))
   simp only [QN, Qp, Qw, upd, ↓reduceIte, QmY, Qm2]
   exact Xa (XV _ _) (.keep (.v _)) ⟨rfl, rfl⟩
 | succ dn ih =>
  intro t b i hdn hb0 hb1 h hi
  have w1 : IntKind.i64.wrap (b - 1) = b - 1 := YP (by omega)
  have f1 := fun x L => Qbd hi x L
  have f2 := fun x y L => Qcm hi x y L
  have f3 := fun x L => Yg (h := h) (i := i) x L
  have f4 := fun x => Xw h i x
  have fb : ∀ b, bud b = .cells 91 1 [.agg [.i b]] := fun _ => rfl
  have wd : IntKind.i64.wrap (((dn + 1 : Nat) : Int) - 1) = (dn : Int) := by rw [YP (by omega)]; omega
  by_cases m0 : b - 1 < 0
  ·have hn : (b - 1 < 0 ∨ ((dn + 1 : Nat) : Int) < 1) := .inl m0
   have R : t.run b ((dn + 1 : Nat) : Int) = (false, b - 1) := by
    rw [T.run_eq, if_pos hn]
   rw [R]
   refine Qe Tryz.func67 rfl Tryz.call67 Tryz.ntmps67 (congrArg Array.toList Tryz.results67) (by simp) ?_
   repeat (first | (((with_reducible refine Qa fun K E hK hE => ?_)); simp -implicitDefEqProofs only [Qd, Qb, Qf, OpW, aop, undef, AS.ev, Qc, QL, Qn, Qt, Qg, Qv, QmZ, Qni, AV.Qmr, Qo, QT, QB, Q7, Qnc, Qnd, Qs, Qu, QI, Qne, Qnf, ↓reduceIte, Qm5, Qm6, Nat.reduceAdd, Nat.reduceLT, Nat.reduceLeDiff, Nat.reduceEqDiff, Qm4, Qnh, Qnr, Qnq, Ql, QG, QH, QW, QM, aBin, QmS, QmT, Qnm, QmU, QmX, QmV, Qnj, Qnl, Qna, Qm1, Qm9, Q3, Zc, Qno, QmW, beq_false, T.Qmp, ti3, Zm, QC, w1, f1, f2, f4, fb, m0, T.Qmp]) | (with_reducible (first | refine Qi fun K hK => ?_ | refine Qm ?_ | refine QA ?_)) | ((with_reducible refine hK _ ?_); clear hK) | (refine Qk rfl ?_; simp only [↓reduceIte]))
   simp only [QN, Qp, Qw, upd, ↓reduceIte, QmY, Qm2]
   exact Xa (XV _ _) (.keep (.v _)) ⟨rfl, rfl⟩
  have d0 : ¬ ((dn + 1 : Nat) : Int) < 1 := by omega
  have hn : ¬ (b - 1 < 0 ∨ ((dn + 1 : Nat) : Int) < 1) := by omega
  by_cases k0 : t.kind = 0
  ·have z0 : (t.kind == 0) = true := by simp [k0]
   by_cases c1 : t.int ≥ -2147483648
   rotate_left
   ·have e1 : ¬ -2147483648 ≤ t.int := by omega
    have R : t.run b ((dn + 1 : Nat) : Int) = (false, b - 1) := by
     rw [T.run_eq, if_neg hn, if_pos k0]; simp [e1]
    rw [R]
    refine Qe Tryz.func67 rfl Tryz.call67 Tryz.ntmps67 (congrArg Array.toList Tryz.results67) (by simp) ?_
    repeat (first | (((with_reducible refine Qa fun K E hK hE => ?_)); simp -implicitDefEqProofs only [Qd, Qb, Qf, OpW, aop, undef, AS.ev, Qc, QL, Qn, Qt, Qg, Qv, QmZ, Qni, AV.Qmr, Qo, QT, QB, Q7, Qnc, Qnd, Qs, Qu, QI, Qne, ↓reduceIte, Qm5, Qm6, Nat.reduceAdd, Nat.reduceLT, Nat.reduceLeDiff, Nat.reduceEqDiff, Qm4, Qnh, Qnr, Qnq, Ql, QG, QH, QW, QM, aBin, QmS, QmT, Qnm, QmU, QmX, QmV, Qnj, Qnl, Qna, Qm1, Qm9, QR, Q3, Xi, Zc, Qnp, Qm0, QmW, beq_true, T.Qmp, ti3, Xu, XF, Zm, QC, w1, f1, f2, f3, f4, fb, m0, d0, T.Qmp, z0, c1]) | (with_reducible (first | refine Qi fun K hK => ?_ | refine Qq ?_ | refine Qm ?_ | refine QD ?_ | refine Qj ?_ | refine QA ?_ | refine QJ ?_)) | ((with_reducible refine hK _ ?_); clear hK) | (refine Qk rfl ?_; simp only [↓reduceIte, QmW]))
    simp only [QN, Qp, Qw, upd, ↓reduceIte, QmY, Qm2]
    exact Xa (XV _ _) (.keep (.v _)) ⟨rfl, rfl⟩
   have e1 : -2147483648 ≤ t.int := by omega
   by_cases c2 : t.int ≤ 2147483648
   rotate_left
   ·skip
    have R : t.run b ((dn + 1 : Nat) : Int) = (false, b - 1) := by
     rw [T.run_eq, if_neg hn, if_pos k0]; simp [e1, c2]
    rw [R]
    refine Qe Tryz.func67 rfl Tryz.call67 Tryz.ntmps67 (congrArg Array.toList Tryz.results67) (by simp) ?_
    repeat (first | (((with_reducible refine Qa fun K E hK hE => ?_)); simp -implicitDefEqProofs only [Qd, Qb, Qf, OpW, aop, undef, AS.ev, Qc, QL, Qn, Qt, Qg, Qv, QmZ, Qni, AV.Qmr, Qo, QT, QB, Q7, Qnc, Qnd, Qs, Qu, QI, Qne, ↓reduceIte, Qm5, Qm6, Nat.reduceAdd, Nat.reduceLT, Nat.reduceLeDiff, Nat.reduceEqDiff, Qm4, Qnh, Qnr, Qnq, Ql, QG, QH, QW, QM, aBin, QmS, QmT, Qnm, QmU, QmX, QmV, Qnj, Qnl, Qna, Qm1, Qm9, QR, Q3, Q9, Xi, Zc, Qno, Qnp, Qm0, QmW, beq_true, T.Qmp, ti3, Xu, XF, Zm, QC, w1, f1, f2, f3, f4, fb, m0, d0, T.Qmp, z0, c1, c2]) | (with_reducible (first | refine Qi fun K hK => ?_ | refine Qq ?_ | refine Qm ?_ | refine QD ?_ | refine Qj ?_ | refine QA ?_ | refine QJ ?_)) | ((with_reducible refine hK _ ?_); clear hK) | (refine Qk rfl ?_; simp only [↓reduceIte, QmW]))
    simp only [QN, Qp, Qw, upd, ↓reduceIte, QmY, Qm2]
    exact Xa (XV _ _) (.keep (.v _)) ⟨rfl, rfl⟩
   cases c3 : ZX t.name with
   | false =>
    have c3' : (t.name.toList == ({ data := #[] } : ByteArray).toList) = false := c3
    have R : t.run b ((dn + 1 : Nat) : Int) = (false, b - 1) := by
     rw [T.run_eq, if_neg hn, if_pos k0]; simp [e1, c2, c3]
    rw [R]
    refine Qe Tryz.func67 rfl Tryz.call67 Tryz.ntmps67 (congrArg Array.toList Tryz.results67) (by simp) ?_
    repeat (first | (((with_reducible refine Qa fun K E hK hE => ?_)); simp -implicitDefEqProofs only [Qd, Qb, Qf, OpW, aop, undef, AS.ev, Qc, QL, Qn, Qt, QO, Qg, Qv, QmZ, Qni, AV.Qmr, Qo, QT, QB, Q7, Qnc, Qnd, Qs, Qu, QI, Qne, ↓reduceIte, Qm5, Qm6, Nat.reduceAdd, Nat.reduceLT, Nat.reduceLeDiff, Nat.reduceEqDiff, Qm4, Qnh, Qnr, Qnq, Ql, QG, QH, QW, QM, aBin, QmS, QmT, Qnm, QmU, QmX, QmV, Qnj, Qnl, Qna, Qm1, Qm9, QR, Q3, Q9, Xi, Zc, QY, Qno, Qnp, Qm0, QmW, beq_true, T.Qmp, ti3, ti9, Xu, XF, XA, Zm, QC, w1, f1, f2, f3, f4, fb, m0, d0, T.Qmp, z0, c1, c2, c3']) | (with_reducible (first | refine Qi fun K hK => ?_ | refine Qq ?_ | refine Qm ?_ | refine QD ?_ | refine Qj ?_ | refine QA ?_ | refine QJ ?_)) | ((with_reducible refine hK _ ?_); clear hK) | (refine Qk rfl ?_; simp only [↓reduceIte, QmW]))
    simp only [QN, Qp, Qw, upd, ↓reduceIte, QmY, Qm2]
    exact Xa (XV _ _) (.keep (.v _)) ⟨rfl, rfl⟩
   | true =>
    have c3' : (t.name.toList == ({ data := #[] } : ByteArray).toList) = true := c3
    cases hl : t.args with
    | nil =>
     have c4 : ((0 : Int) == 0) = true := rfl
     have R : t.run b ((dn + 1 : Nat) : Int) = (true, b - 1) := by
      rw [T.run_eq, if_neg hn, if_pos k0]; simp [e1, c2, c3, hl]
     rw [R]
     refine Qe Tryz.func67 rfl Tryz.call67 Tryz.ntmps67 (congrArg Array.toList Tryz.results67) (by simp) ?_
     repeat (first | (((with_reducible refine Qa fun K E hK hE => ?_)); simp -implicitDefEqProofs only [Qd, Qb, Qf, OpW, aop, undef, AS.ev, Qc, QL, Qn, Qt, QO, Qg, Qv, QmZ, Qni, AV.Qmr, Qo, QT, QB, Q7, Qnc, Qnd, Qs, Qu, QI, Qne, ↓reduceIte, Qm5, Qm6, Nat.reduceAdd, Nat.reduceLT, Nat.reduceLeDiff, Nat.reduceEqDiff, Qm4, Qnh, Qnr, Qnq, Ql, QG, QH, QW, QM, aBin, aLen, QmS, QmT, Qnm, QmU, QmX, QmV, Qnj, Qnl, Qna, Qm1, Qm9, QR, Q3, Q9, Xi, Zc, QY, goInt, Qno, Qnp, Qm0, QnE, QmW, T.Qmp, ti3, ti9, ti22, un22, Xu, XF, XA, Xx, Zm, QC, w1, f1, f2, f3, f4, fb, m0, d0, T.Qmp, z0, c1, c2, c3', hl, Qfi]) | (with_reducible (first | refine Qi fun K hK => ?_ | refine Qq ?_ | refine Qm ?_ | refine QD ?_ | refine Qj ?_ | refine QA ?_ | refine QJ ?_)) | ((with_reducible refine hK _ ?_); clear hK) | (refine Qk rfl ?_; simp only [↓reduceIte, QmW]))
     simp only [QN, Qp, Qw, upd, ↓reduceIte, QmY, Qm2]
     exact Xa (XV _ _) (.keep (.v _)) ⟨rfl, rfl⟩
    | cons a l =>
     have c4 : (((l.length + 1 : Nat) : Int) == 0) = false := by simp; omega
     have R : t.run b ((dn + 1 : Nat) : Int) = (false, b - 1) := by
      rw [T.run_eq, if_neg hn, if_pos k0]; simp [e1, c2, c3, hl]
     rw [R]
     refine Qe Tryz.func67 rfl Tryz.call67 Tryz.ntmps67 (congrArg Array.toList Tryz.results67) (by simp) ?_
     repeat (first | (((with_reducible refine Qa fun K E hK hE => ?_)); simp -implicitDefEqProofs only [Qd, Qb, Qf, OpW, aop, undef, AS.ev, Qc, QL, Qn, Qt, QO, Qg, Qv, QmZ, Qni, AV.Qmr, Qo, QT, QB, Q7, Qnc, Qnd, Qs, Qu, QI, Qne, ↓reduceIte, Qm5, Qm6, Nat.reduceAdd, Nat.reduceLT, Nat.reduceLeDiff, Nat.reduceEqDiff, Qm4, Qnh, Qnr, Qnq, Ql, QG, QH, QW, QM, aBin, aLen, QmS, QmT, Qnm, QmU, QmX, QmV, Qnj, Qnl, Qna, Qm1, Qm9, QR, Q3, Q9, Xi, Zc, QY, goInt, Qno, Qnp, Qm0, QmW, T.Qmp, QK, ti3, ti9, ti22, un22, Xu, XF, XA, Xx, Zm, QC, w1, f1, f2, f3, f4, fb, m0, d0, T.Qmp, z0, c1, c2, c3', hl, QK, Qm5, c4]) | (with_reducible (first | refine Qi fun K hK => ?_ | refine Qq ?_ | refine Qm ?_ | refine QD ?_ | refine Qj ?_ | refine QA ?_ | refine QJ ?_)) | ((with_reducible refine hK _ ?_); clear hK) | (refine Qk rfl ?_; simp only [↓reduceIte, QmW]))
     simp only [QN, Qp, Qw, upd, ↓reduceIte, QmY, Qm2]
     exact Xa (XV _ _) (.keep (.v _)) ⟨rfl, rfl⟩
  have z0 : (t.kind == 0) = false := by simp [k0]
  by_cases k1 : t.kind = 1
  ·have z1 : (t.kind == 1) = true := by simp [k1]
   by_cases c1 : t.int ≥ 0
   rotate_left
   ·have e1 : ¬ 0 ≤ t.int := by omega
    have R : t.run b ((dn + 1 : Nat) : Int) = (false, b - 1) := by
     rw [T.run_eq, if_neg hn, if_neg k0, if_pos k1]; simp [e1]
    rw [R]
    refine Qe Tryz.func67 rfl Tryz.call67 Tryz.ntmps67 (congrArg Array.toList Tryz.results67) (by simp) ?_
    repeat (first | (((with_reducible refine Qa fun K E hK hE => ?_)); simp -implicitDefEqProofs only [Qd, Qb, Qf, OpW, aop, undef, AS.ev, Qc, QL, Qn, Qt, Qg, Qv, QmZ, Qni, AV.Qmr, Qo, QT, QB, Q7, Qnc, Qnd, Qs, Qu, QI, Qne, ↓reduceIte, Qm5, Qm6, Nat.reduceAdd, Nat.reduceLT, Nat.reduceLeDiff, Nat.reduceEqDiff, Qm4, Qnh, Qnr, Qnq, Ql, QG, QH, QW, QM, aBin, QmS, QmT, Qnm, QmU, QmX, QmV, Qnj, Qnl, Qna, Qm1, Qm9, QR, Q3, Xi, Zc, Qnp, Qm0, QmW, beq_true, T.Qmp, ti3, Xu, XF, Zm, QC, w1, f1, f2, f3, f4, fb, m0, d0, T.Qmp, z0, z1, c1]) | (with_reducible (first | refine Qi fun K hK => ?_ | refine Qq ?_ | refine Qm ?_ | refine QD ?_ | refine Qj ?_ | refine QA ?_ | refine QJ ?_)) | ((with_reducible refine hK _ ?_); clear hK) | (refine Qk rfl ?_; simp only [↓reduceIte, QmW]))
    simp only [QN, Qp, Qw, upd, ↓reduceIte, QmY, Qm2]
    exact Xa (XV _ _) (.keep (.v _)) ⟨rfl, rfl⟩
   have e1 : 0 ≤ t.int := by omega
   by_cases c2 : t.int ≤ 1048576
   rotate_left
   ·skip
    have R : t.run b ((dn + 1 : Nat) : Int) = (false, b - 1) := by
     rw [T.run_eq, if_neg hn, if_neg k0, if_pos k1]; simp [e1, c2]
    rw [R]
    refine Qe Tryz.func67 rfl Tryz.call67 Tryz.ntmps67 (congrArg Array.toList Tryz.results67) (by simp) ?_
    repeat (first | (((with_reducible refine Qa fun K E hK hE => ?_)); simp -implicitDefEqProofs only [Qd, Qb, Qf, OpW, aop, undef, AS.ev, Qc, QL, Qn, Qt, Qg, Qv, QmZ, Qni, AV.Qmr, Qo, QT, QB, Q7, Qnc, Qnd, Qs, Qu, QI, Qne, ↓reduceIte, Qm5, Qm6, Nat.reduceAdd, Nat.reduceLT, Nat.reduceLeDiff, Nat.reduceEqDiff, Qm4, Qnh, Qnr, Qnq, Ql, QG, QH, QW, QM, aBin, QmS, QmT, Qnm, QmU, QmX, QmV, Qnj, Qnl, Qna, Qm1, Qm9, QR, Q3, Q9, Xi, Zc, Qno, Qnp, Qm0, QmW, beq_true, T.Qmp, ti3, Xu, XF, Zm, QC, w1, f1, f2, f3, f4, fb, m0, d0, T.Qmp, z0, z1, c1, c2]) | (with_reducible (first | refine Qi fun K hK => ?_ | refine Qq ?_ | refine Qm ?_ | refine QD ?_ | refine Qj ?_ | refine QA ?_ | refine QJ ?_)) | ((with_reducible refine hK _ ?_); clear hK) | (refine Qk rfl ?_; simp only [↓reduceIte, QmW]))
    simp only [QN, Qp, Qw, upd, ↓reduceIte, QmY, Qm2]
    exact Xa (XV _ _) (.keep (.v _)) ⟨rfl, rfl⟩
   cases c3 : ZX t.name with
   | false =>
    have c3' : (t.name.toList == ({ data := #[] } : ByteArray).toList) = false := c3
    have R : t.run b ((dn + 1 : Nat) : Int) = (false, b - 1) := by
     rw [T.run_eq, if_neg hn, if_neg k0, if_pos k1]; simp [e1, c2, c3]
    rw [R]
    refine Qe Tryz.func67 rfl Tryz.call67 Tryz.ntmps67 (congrArg Array.toList Tryz.results67) (by simp) ?_
    repeat (first | (((with_reducible refine Qa fun K E hK hE => ?_)); simp -implicitDefEqProofs only [Qd, Qb, Qf, OpW, aop, undef, AS.ev, Qc, QL, Qn, Qt, QO, Qg, Qv, QmZ, Qni, AV.Qmr, Qo, QT, QB, Q7, Qnc, Qnd, Qs, Qu, QI, Qne, ↓reduceIte, Qm5, Qm6, Nat.reduceAdd, Nat.reduceLT, Nat.reduceLeDiff, Nat.reduceEqDiff, Qm4, Qnh, Qnr, Qnq, Ql, QG, QH, QW, QM, aBin, QmS, QmT, Qnm, QmU, QmX, QmV, Qnj, Qnl, Qna, Qm1, Qm9, QR, Q3, Q9, Xi, Zc, QY, Qno, Qnp, Qm0, QmW, beq_true, T.Qmp, ti3, ti9, Xu, XF, XA, Zm, QC, w1, f1, f2, f3, f4, fb, m0, d0, T.Qmp, z0, z1, c1, c2, c3']) | (with_reducible (first | refine Qi fun K hK => ?_ | refine Qq ?_ | refine Qm ?_ | refine QD ?_ | refine Qj ?_ | refine QA ?_ | refine QJ ?_)) | ((with_reducible refine hK _ ?_); clear hK) | (refine Qk rfl ?_; simp only [↓reduceIte, QmW]))
    simp only [QN, Qp, Qw, upd, ↓reduceIte, QmY, Qm2]
    exact Xa (XV _ _) (.keep (.v _)) ⟨rfl, rfl⟩
   | true =>
    have c3' : (t.name.toList == ({ data := #[] } : ByteArray).toList) = true := c3
    cases hl : t.args with
    | nil =>
     have c4 : ((0 : Int) == 0) = true := rfl
     have R : t.run b ((dn + 1 : Nat) : Int) = (true, b - 1) := by
      rw [T.run_eq, if_neg hn, if_neg k0, if_pos k1]; simp [e1, c2, c3, hl]
     rw [R]
     refine Qe Tryz.func67 rfl Tryz.call67 Tryz.ntmps67 (congrArg Array.toList Tryz.results67) (by simp) ?_
     repeat (first | (((with_reducible refine Qa fun K E hK hE => ?_)); simp -implicitDefEqProofs only [Qd, Qb, Qf, OpW, aop, undef, AS.ev, Qc, QL, Qn, Qt, QO, Qg, Qv, QmZ, Qni, AV.Qmr, Qo, QT, QB, Q7, Qnc, Qnd, Qs, Qu, QI, Qne, ↓reduceIte, Qm5, Qm6, Nat.reduceAdd, Nat.reduceLT, Nat.reduceLeDiff, Nat.reduceEqDiff, Qm4, Qnh, Qnr, Qnq, Ql, QG, QH, QW, QM, aBin, aLen, QmS, QmT, Qnm, QmU, QmX, QmV, Qnj, Qnl, Qna, Qm1, Qm9, QR, Q3, Q9, Xi, Zc, QY, goInt, Qno, Qnp, Qm0, QnE, QmW, T.Qmp, ti3, ti9, ti22, un22, Xu, XF, XA, Xx, Zm, QC, w1, f1, f2, f3, f4, fb, m0, d0, T.Qmp, z0, z1, c1, c2, c3', hl, Qfi]) | (with_reducible (first | refine Qi fun K hK => ?_ | refine Qq ?_ | refine Qm ?_ | refine QD ?_ | refine Qj ?_ | refine QA ?_ | refine QJ ?_)) | ((with_reducible refine hK _ ?_); clear hK) | (refine Qk rfl ?_; simp only [↓reduceIte, QmW]))
     simp only [QN, Qp, Qw, upd, ↓reduceIte, QmY, Qm2]
     exact Xa (XV _ _) (.keep (.v _)) ⟨rfl, rfl⟩
    | cons a l =>
     have c4 : (((l.length + 1 : Nat) : Int) == 0) = false := by simp; omega
     have R : t.run b ((dn + 1 : Nat) : Int) = (false, b - 1) := by
      rw [T.run_eq, if_neg hn, if_neg k0, if_pos k1]; simp [e1, c2, c3, hl]
     rw [R]
     refine Qe Tryz.func67 rfl Tryz.call67 Tryz.ntmps67 (congrArg Array.toList Tryz.results67) (by simp) ?_
     repeat (first | (((with_reducible refine Qa fun K E hK hE => ?_)); simp -implicitDefEqProofs only [Qd, Qb, Qf, OpW, aop, undef, AS.ev, Qc, QL, Qn, Qt, QO, Qg, Qv, QmZ, Qni, AV.Qmr, Qo, QT, QB, Q7, Qnc, Qnd, Qs, Qu, QI, Qne, ↓reduceIte, Qm5, Qm6, Nat.reduceAdd, Nat.reduceLT, Nat.reduceLeDiff, Nat.reduceEqDiff, Qm4, Qnh, Qnr, Qnq, Ql, QG, QH, QW, QM, aBin, aLen, QmS, QmT, Qnm, QmU, QmX, QmV, Qnj, Qnl, Qna, Qm1, Qm9, QR, Q3, Q9, Xi, Zc, QY, goInt, Qno, Qnp, Qm0, QmW, T.Qmp, QK, ti3, ti9, ti22, un22, Xu, XF, XA, Xx, Zm, QC, w1, f1, f2, f3, f4, fb, m0, d0, T.Qmp, z0, z1, c1, c2, c3', hl, QK, Qm5, c4]) | (with_reducible (first | refine Qi fun K hK => ?_ | refine Qq ?_ | refine Qm ?_ | refine QD ?_ | refine Qj ?_ | refine QA ?_ | refine QJ ?_)) | ((with_reducible refine hK _ ?_); clear hK) | (refine Qk rfl ?_; simp only [↓reduceIte, QmW]))
     simp only [QN, Qp, Qw, upd, ↓reduceIte, QmY, Qm2]
     exact Xa (XV _ _) (.keep (.v _)) ⟨rfl, rfl⟩
  have z1 : (t.kind == 1) = false := by simp [k1]
  by_cases k2 : t.kind = 2
  rotate_left
  ·have z2 : (t.kind == 2) = false := by simp [k2]
   have R : t.run b ((dn + 1 : Nat) : Int) = (false, b - 1) := by
    rw [T.run_eq, if_neg hn, if_neg k0, if_neg k1, if_neg k2]
   rw [R]
   refine Qe Tryz.func67 rfl Tryz.call67 Tryz.ntmps67 (congrArg Array.toList Tryz.results67) (by simp) ?_
   repeat (first | (((with_reducible refine Qa fun K E hK hE => ?_)); simp -implicitDefEqProofs only [Qd, Qb, Qf, OpW, aop, undef, AS.ev, Qc, QL, Qn, Qt, Qg, Qv, QmZ, Qni, AV.Qmr, Qo, QT, QB, Q7, Qnc, Qnd, Qs, Qu, QI, Qne, ↓reduceIte, Qm5, Qm6, Nat.reduceAdd, Nat.reduceLT, Nat.reduceLeDiff, Nat.reduceEqDiff, Qm4, Qnh, Qnr, Qnq, Ql, QG, QH, QW, QM, aBin, QmS, QmT, Qnm, QmU, QmX, QmV, Qnj, Qnl, Qna, Qm1, Qm9, QR, Q3, Zc, Qnp, Qm0, QmW, T.Qmp, ti3, Xu, Zm, QC, w1, f1, f2, f3, f4, fb, m0, d0, T.Qmp, z0, z1, z2]) | (with_reducible (first | refine Qi fun K hK => ?_ | refine Qq ?_ | refine Qm ?_ | refine QD ?_ | refine Qj ?_ | refine QF ?_)) | ((with_reducible refine hK _ ?_); clear hK) | (refine Qk rfl ?_; simp only [↓reduceIte, QmW]))
   simp only [QN, Qp, Qw, upd, ↓reduceIte, QmY, Qm2]
   exact Xa (XV _ _) (.keep (.v _)) ⟨rfl, rfl⟩
  have z2 : (t.kind == 2) = true := by simp [k2]
  by_cases i0 : t.int = 0
  rotate_left
  ·have y0 : (t.int != 0) = true := by simp [i0]
   have R : t.run b ((dn + 1 : Nat) : Int) = (false, b - 1) := by
    rw [T.run_eq, if_neg hn, if_neg k0, if_neg k1, if_pos k2, if_pos (.inl i0)]
   rw [R]
   refine Qe Tryz.func67 rfl Tryz.call67 Tryz.ntmps67 (congrArg Array.toList Tryz.results67) (by simp) ?_
   repeat (first | (((with_reducible refine Qa fun K E hK hE => ?_)); simp -implicitDefEqProofs only [Qd, Qb, Qf, OpW, aop, undef, AS.ev, Qc, QL, Qn, Qt, Qg, Qv, QmZ, Qni, AV.Qmr, Qo, QT, QB, Q7, Qnc, Qnd, Qs, Qu, QI, Qne, Qnf, ↓reduceIte, Qm5, Qm6, Nat.reduceAdd, Nat.reduceLT, Nat.reduceLeDiff, Nat.reduceEqDiff, Qm4, Qnh, Qnr, Qnq, Ql, QG, QH, QW, QM, aBin, QmS, QmT, Qnm, QmU, QmX, QmV, Qnj, Qnl, Qna, Qm1, Qm9, QR, Q2, Q3, Zc, Qnp, Qm0, QmW, beq_false, T.Qmp, ti3, Xu, XF, Zm, QC, w1, f1, f2, f3, f4, fb, m0, d0, T.Qmp, z0, z1, z2, y0]) | (with_reducible (first | refine Qi fun K hK => ?_ | refine Qq ?_ | refine Qm ?_ | refine QD ?_ | refine Qj ?_ | refine QA ?_ | refine QJ ?_)) | ((with_reducible refine hK _ ?_); clear hK) | (refine Qk rfl ?_; simp only [↓reduceIte, QmW]))
   simp only [QN, Qp, Qw, upd, ↓reduceIte, QmY, Qm2]
   exact Xa (XV _ _) (.keep (.v _)) ⟨rfl, rfl⟩
  have y0 : (t.int != 0) = false := by simp [i0]
  by_cases a6 : t.args.length > 6
  ·have y6 : (t.args.length : Int) > 6 := by omega
   have R : t.run b ((dn + 1 : Nat) : Int) = (false, b - 1) := by
    rw [T.run_eq, if_neg hn, if_neg k0, if_neg k1, if_pos k2, if_pos (.inr a6)]
   rw [R]
   refine Qe Tryz.func67 rfl Tryz.call67 Tryz.ntmps67 (congrArg Array.toList Tryz.results67) (by simp) ?_
   repeat (first | (((with_reducible refine Qa fun K E hK hE => ?_)); simp -implicitDefEqProofs only [Qd, Qb, Qf, OpW, aop, undef, AS.ev, Qc, QL, Qn, Qt, Qg, Qv, QmZ, Qni, AV.Qmr, Qo, QT, QB, Q7, Qnc, Qnd, Qs, Qu, QI, Qne, ↓reduceIte, Qm5, Qm6, Nat.reduceAdd, Nat.reduceLT, Nat.reduceLeDiff, Nat.reduceEqDiff, Qm4, Qnh, Qnr, Qnq, Ql, QG, QH, QW, QM, aBin, aLen, QmS, QmT, Qnm, QmU, QmX, QmV, Qnj, Qnl, Qna, Qm1, Qm9, QR, Q2, Q3, Xr, Zc, goInt, Qno, Qnp, Qm0, QmW, T.Qmp, QK, ti3, ti22, un22, Xu, XF, Xx, Zm, QC, w1, f1, f2, f3, f4, fb, m0, d0, T.Qmp, z0, z1, z2, y0, y6, QK]) | (with_reducible (first | refine Qi fun K hK => ?_ | refine Qq ?_ | refine Qm ?_ | refine QD ?_ | refine Qj ?_ | refine QA ?_ | refine QJ ?_)) | ((with_reducible refine hK _ ?_); clear hK) | (refine Qk rfl ?_; simp only [↓reduceIte, QmW]))
   simp only [QN, Qp, Qw, upd, ↓reduceIte, QmY, Qm2]
   exact Xa (XV _ _) (.keep (.v _)) ⟨rfl, rfl⟩
  have y6 : ¬ (t.args.length : Int) > 6 := by omega
  have a6' : ¬ 6 < t.args.length := a6
  have cr := Qcu t.name
  have co := Qfb t.name
  have er : (decide (Qb2 1 t.name) && !resB t.name) = Yp t.name := rfl
  rw [er] at cr
  have hind := fun b2 hb => QjT dn (fun t b i h0 h1 => ih t b i (by omega) h0 h1) t.args (by omega) b2 i hb (fun t b hb h => T.QmE t b dn hb h)
  have ca := (hind (b - 1) (by omega)).app hi [.cells 24 4 [t.av]]
  rw [fb, fb] at ca
  cases hr : Yp t.name with
  | true =>
   rw [hr] at cr
   have R : t.run b ((dn + 1 : Nat) : Int) = runL t.args (b - 1) (dn : Int) := by
    rw [T.run_eq, if_neg hn, if_neg k0, if_neg k1, if_pos k2, if_neg (show ¬ (t.int ≠ 0 ∨ 6 < t.args.length) by omega), hr, if_neg (by simp)]; rw [show (((dn + 1 : Nat) : Int) - 1) = (dn : Int) by omega]
   rw [R]
   refine Qe Tryz.func67 rfl Tryz.call67 Tryz.ntmps67 (congrArg Array.toList Tryz.results67) (by simp) ?_
   repeat (first | ((first | (with_reducible (first | refine Qa fun K E hK hE => ?_ | refine Qz cr ?_ | refine FunW.ret (FunW.call ca) ?_))); simp -implicitDefEqProofs only [Qd, Qb, Qf, OpW, QQ, aop, undef, AS.ev, Qc, QL, Qn, Qt, Qg, Qv, QmZ, Qni, AV.Qmr, Qo, QT, QB, Q7, Qnc, Qnd, Qs, Qu, QI, Qne, Qnf, ↓reduceIte, Qm5, Qm6, Nat.reduceAdd, Nat.reduceLT, Nat.reduceLeDiff, Nat.reduceEqDiff, Qm4, Qnh, Qnr, Qnq, Ql, QG, QH, QW, QM, aBin, aLen, QmS, QmT, Qnm, QmU, QmX, QmV, Qm7, Qnb, Qnj, Qnl, Qna, Qm1, Qm9, QR, Q2, Q3, Xr, Zc, Xp, goInt, Qnp, Qm0, QmW, beq_true, T.Qmp, QK, ti3, ti9, ti22, un22, Xu, XF, XA, Xx, Zm, QC, w1, f1, f2, f3, f4, fb, m0, d0, T.Qmp, z0, z1, z2, y0, y6, QK, wd]) | (with_reducible (first | refine Qi fun K hK => ?_ | refine Qq ?_ | refine Qm ?_ | refine QD ?_ | refine Qj ?_ | refine QA ?_ | refine QJ ?_)) | ((with_reducible refine hK _ ?_); clear hK) | (refine Qk rfl ?_; simp only [↓reduceIte, QmW]))
   simp only [QN, Qp, Qw, upd, ↓reduceIte, QmY, Qm2]
   exact Xa (XV _ _) (.keep (.v _)) ⟨rfl, rfl⟩
  | false =>
   rw [hr] at cr
   cases ho : opB t.name with
   | false =>
    rw [ho] at co
    have R : t.run b ((dn + 1 : Nat) : Int) = (false, b - 1) := by
     rw [T.run_eq, if_neg hn, if_neg k0, if_neg k1, if_pos k2, if_neg (show ¬ (t.int ≠ 0 ∨ 6 < t.args.length) by omega), hr, ho, if_pos (by simp)]
    rw [R]
    refine Qe Tryz.func67 rfl Tryz.call67 Tryz.ntmps67 (congrArg Array.toList Tryz.results67) (by simp) ?_
    repeat (first | ((first | (with_reducible (first | refine Qa fun K E hK hE => ?_ | refine Qz cr ?_ | refine Qz co ?_))); simp -implicitDefEqProofs only [Qd, Qb, Qf, OpW, QQ, aop, undef, AS.ev, Qc, QL, Qn, Qt, Qg, Qv, QmZ, Qni, AV.Qmr, Qo, QT, QB, Q7, Qnc, Qnd, Qs, Qu, QI, Qne, Qng, ↓reduceIte, Qm5, Qm6, Nat.reduceAdd, Nat.reduceLT, Nat.reduceLeDiff, Nat.reduceEqDiff, Qm4, Qnh, Qnr, Qnq, Ql, QG, QH, QW, QM, aBin, aLen, QmS, QmT, Qnm, QmU, QmX, QmV, Qm7, Qnb, Qnj, Qnl, Qna, Qm1, Qm9, QR, Q2, Q3, Xr, Zc, Xp, goInt, Qnp, Qm0, QmW, beq_true, T.Qmp, QK, ti3, ti9, ti22, un22, Xu, XF, XA, Xx, Zm, QC, w1, f1, f2, f3, f4, fb, m0, d0, T.Qmp, z0, z1, z2, y0, y6, QK]) | (with_reducible (first | refine Qi fun K hK => ?_ | refine Qq ?_ | refine Qm ?_ | refine QD ?_ | refine Qj ?_ | refine QA ?_ | refine QJ ?_)) | ((with_reducible refine hK _ ?_); clear hK) | (refine Qk rfl ?_; simp only [↓reduceIte, QmW]))
    simp only [QN, Qp, Qw, upd, ↓reduceIte, QmY, Qm2]
    exact Xa (XV _ _) (.keep (.v _)) ⟨rfl, rfl⟩
   | true =>
    rw [ho] at co
    by_cases l2 : t.args.length = 2
    ·have z3 : ((t.args.length : Int) == 2) = true := by simp [l2]
     have R : t.run b ((dn + 1 : Nat) : Int) = runL t.args (b - 1) (dn : Int) := by
      rw [T.run_eq, if_neg hn, if_neg k0, if_neg k1, if_pos k2, if_neg (show ¬ (t.int ≠ 0 ∨ 6 < t.args.length) by omega), hr, ho, if_neg (by simp [l2])]; rw [show (((dn + 1 : Nat) : Int) - 1) = (dn : Int) by omega]
     rw [R]
     refine Qe Tryz.func67 rfl Tryz.call67 Tryz.ntmps67 (congrArg Array.toList Tryz.results67) (by simp) ?_
     repeat (first | ((first | (with_reducible (first | refine Qa fun K E hK hE => ?_ | refine Qz cr ?_ | refine Qz co ?_ | refine FunW.ret (FunW.call ca) ?_))); simp -implicitDefEqProofs only [Qd, Qb, Qf, OpW, QQ, aop, undef, AS.ev, Qc, QL, Qn, Qt, Qg, Qv, QmZ, Qni, AV.Qmr, Qo, QT, QB, Q7, Qnc, Qnd, Qs, Qu, QI, Qne, Qnf, Qng, ↓reduceIte, Qm5, Qm6, Nat.reduceAdd, Nat.reduceLT, Nat.reduceLeDiff, Nat.reduceEqDiff, Qm4, Qnh, Qnr, Qnq, Ql, QG, QH, QW, QM, aBin, aLen, QmS, QmT, Qnm, QmU, QmX, QmV, Qm7, Qnb, Qnj, Qnl, Qna, Qm1, Qm9, QR, Q2, Q3, Xr, Zc, Xp, goInt, Qnp, Qm0, QmW, T.Qmp, QK, ti3, ti9, ti22, un22, Xu, XF, XA, Xx, Zm, QC, w1, f1, f2, f3, f4, fb, m0, d0, T.Qmp, z0, z1, z2, y0, y6, QK, z3, wd]) | (with_reducible (first | refine Qi fun K hK => ?_ | refine Qq ?_ | refine Qm ?_ | refine QD ?_ | refine Qj ?_ | refine QA ?_ | refine QJ ?_)) | ((with_reducible refine hK _ ?_); clear hK) | (refine Qk rfl ?_; simp only [↓reduceIte, QmW]))
     simp only [QN, Qp, Qw, upd, ↓reduceIte, QmY, Qm2]
     exact Xa (XV _ _) (.keep (.v _)) ⟨rfl, rfl⟩
    ·have z3 : ((t.args.length : Int) == 2) = false := by simp; omega
     have R : t.run b ((dn + 1 : Nat) : Int) = (false, b - 1) := by
      rw [T.run_eq, if_neg hn, if_neg k0, if_neg k1, if_pos k2, if_neg (show ¬ (t.int ≠ 0 ∨ 6 < t.args.length) by omega), hr, ho, if_pos (by simp [l2])]
     rw [R]
     refine Qe Tryz.func67 rfl Tryz.call67 Tryz.ntmps67 (congrArg Array.toList Tryz.results67) (by simp) ?_
     repeat (first | ((first | (with_reducible (first | refine Qa fun K E hK hE => ?_ | refine Qz cr ?_ | refine Qz co ?_))); simp -implicitDefEqProofs only [Qd, Qb, Qf, OpW, QQ, aop, undef, AS.ev, Qc, QL, Qn, Qt, Qg, Qv, QmZ, Qni, AV.Qmr, Qo, QT, QB, Q7, Qnc, Qnd, Qs, Qu, QI, Qne, Qng, ↓reduceIte, Qm5, Qm6, Nat.reduceAdd, Nat.reduceLT, Nat.reduceLeDiff, Nat.reduceEqDiff, Qm4, Qnh, Qnr, Qnq, Ql, QG, QH, QW, QM, aBin, aLen, QmS, QmT, Qnm, QmU, QmX, QmV, Qm7, Qnb, Qnj, Qnl, Qna, Qm1, Qm9, QR, Q2, Q3, Xr, Zc, Xp, goInt, Qnp, Qm0, QmW, T.Qmp, QK, ti3, ti9, ti22, un22, Xu, XF, XA, Xx, Zm, QC, w1, f1, f2, f3, f4, fb, m0, d0, T.Qmp, z0, z1, z2, y0, y6, QK, z3]) | (with_reducible (first | refine Qi fun K hK => ?_ | refine Qq ?_ | refine Qm ?_ | refine QD ?_ | refine Qj ?_ | refine QA ?_ | refine QJ ?_)) | ((with_reducible refine hK _ ?_); clear hK) | (refine Qk rfl ?_; simp only [↓reduceIte, QmW]))
     simp only [QN, Qp, Qw, upd, ↓reduceIte, QmY, Qm2]
     exact Xa (XV _ _) (.keep (.v _)) ⟨rfl, rfl⟩
end Go.Proofs.YtehjodmnajgdgaaGreatDoor.Ab
set_option maxRecDepth 4000
namespace Go.Proofs.YtehjodmnajgdgaaGreatDoor.Ab
open Go.Proofs
theorem Chg.at {P : Program} {f : FuncId} {args : List AV} {i : Nat} {x y : AB} {r : AV} (H : Chg P f args i x r y) {h : AH} (hx : h[i]? = some x) : Xf P f args h fun o h' => o = .ret r ∧ h' = h.set i y := by
  have := H h (QS hx)
  rwa [QeP hx] at this
theorem Qlc (l : List T) (hl : l.length ≤ 1000) (h : AH) (i : Nat) (hx : h[i]? = some (.cells 91 1 [.agg [.i 200]])) : Xf Tryz.prog 78 [.ptr i 0 0, .sl 4 (avs l) none, .i 20] h
    fun o h' => o = .ret (.b (runL l 200 20).1) ∧ h' = h.set i (.cells 91 1 [.agg [.i (runL l 200 20).2]]) :=
  (QjT 20 (fun t b i h0 h1 => QfF 20 t b i (by omega) h0 h1) l hl 200 i (by omega) (fun t b hb h => T.QmE t b 20 hb h)).at hx
def Xc (g : G) : Bool := Yp g.name && (decide (g.args.length ≤ 6) && (runL g.args 200 20).1)
theorem Qak (g : G) : Pure Tryz.prog 45 [g.atom] (.b (Xc g)) := by
  intro h
  have cr := Qcu g.name
  have er : (decide (Qb2 1 g.name) && !resB g.name) = Yp g.name := rfl
  rw [er] at cr
  cases hr : Yp g.name with
  | false =>
    rw [hr] at cr
    refine Qe Tryz.func45 rfl Tryz.call45 Tryz.ntmps45 (congrArg Array.toList Tryz.results45) (by simp) ?_
    repeat (first | ((first | (with_reducible (first | refine Qa fun K E hK hE => ?_ | refine Qz cr ?_))); simp -implicitDefEqProofs only [Qd, Qb, Qf, OpW, QQ, aop, undef, AS.ev, Qc, Qn, Qt, Qg, Qv, QmZ, AV.Qmr, Qo, QT, QB, Qnc, Qnd, Qs, Qu, QI, Qne, ↓reduceIte, Qm5, Qm6, Nat.reduceAdd, Nat.reduceLT, Nat.reduceLeDiff, Nat.reduceEqDiff, Qm4, Qnh, Qnq, Ql, QG, QH, Xn, XE, Q0, hlen, happ, QmS, QmT, QmU, QmX, QmV, Qm7, Qnb, Qnk, Qnj, Qnl, Qna, Qm1, Qm9, QmW, beq_true, ti9, QcH, zi91, sp91, Xy]) | (with_reducible refine Qm ?_) | ((with_reducible refine hK _ ?_); clear hK))
    simp only [QN, Qp, Qw, upd, ↓reduceIte, QmY, Qm2]; first | refine Qh (htake _ _) (.keep (.v _)) ⟨by rw [Xc, hr]; rfl, rfl⟩ | refine Qh List.take_length (.keep (.v _)) ⟨by rw [Xc, hr]; rfl, rfl⟩
  | true =>
    rw [hr] at cr
    by_cases hl : (g.args.length : Int) ≤ 6
    · have hl' : decide (g.args.length ≤ 6) = true := decide_eq_true (by omega)
      have ca := Qlc g.args (by omega) (h ++ [.cells 34 2 [g.atom], .cells 91 1 [.agg [.i 200]]]) (h.length + 1) (by rw [hget]; rfl)
      rw [hset] at ca
      refine Qe Tryz.func45 rfl Tryz.call45 Tryz.ntmps45 (congrArg Array.toList Tryz.results45) (by simp) ?_
      repeat (first | ((first | (with_reducible (first | refine Qa fun K E hK hE => ?_ | refine Qz cr ?_ | refine FunW.ret (FunW.call ca) ?_))); simp -implicitDefEqProofs only [Qd, Qb, Qf, OpW, QQ, aop, undef, AS.ev, Qc, Qn, Qt, Qg, Qv, QmZ, AV.Qmr, Qo, QT, QB, Qnc, Qnd, Qs, Qu, QI, Qne, ↓reduceIte, Qm5, Qm6, Nat.reduceAdd, Nat.reduceLT, Nat.reduceLeDiff, Nat.reduceEqDiff, Qm4, Qnh, Qnq, Ql, QG, QH, aBin, Xn, XE, aLen, Q0, hlen, happ, QmS, QmT, Qnm, Qnn, QmU, QmX, QmV, Qm7, Qnb, Qnk, Qnj, Qnl, Qna, Qm1, Qm9, Q9, goInt, Qno, Qm0, QK, ti9, ti22, un22, QcH, Qeu, zi91, sp91, Xy, hl, QK]) | (with_reducible refine Qm ?_) | ((with_reducible refine hK _ ?_); clear hK))
      simp only [QN, Qp, Qw, upd, ↓reduceIte, QmY, Qm2]; first | refine Qh (htake _ _) (.keep (.v _)) ⟨by rw [Xc, hr, hl']; rfl, rfl⟩ | refine Qh List.take_length (.keep (.v _)) ⟨by rw [Xc, hr, hl']; rfl, rfl⟩
    · have hl' : decide (g.args.length ≤ 6) = false := decide_eq_false (by omega)
      refine Qe Tryz.func45 rfl Tryz.call45 Tryz.ntmps45 (congrArg Array.toList Tryz.results45) (by simp) ?_
      repeat (first | ((first | (with_reducible (first | refine Qa fun K E hK hE => ?_ | refine Qz cr ?_))); simp -implicitDefEqProofs only [Qd, Qb, Qf, OpW, QQ, aop, undef, AS.ev, Qc, Qn, Qt, Qg, Qv, QmZ, AV.Qmr, Qo, QT, QB, Qnc, Qnd, Qs, Qu, QI, Qne, ↓reduceIte, Qm5, Qm6, Nat.reduceAdd, Nat.reduceLT, Nat.reduceLeDiff, Nat.reduceEqDiff, Qm4, Qnh, Qnq, Ql, QG, QH, aBin, Xn, XE, aLen, Q0, hlen, happ, QmS, QmT, QmU, QmX, QmV, Qm7, Qnb, Qnk, Qnj, Qnl, Qna, Qm1, Qm9, Q9, goInt, Qnp, Qm0, QmW, beq_true, QK, ti9, ti22, un22, QcH, Qeu, zi91, sp91, Xy, hl, QK]) | (with_reducible refine Qm ?_) | ((with_reducible refine hK _ ?_); clear hK))
      simp only [QN, Qp, Qw, upd, ↓reduceIte, QmY, Qm2]; first | refine Qh (htake _ _) (.keep (.v _)) ⟨by rw [Xc, hr, hl']; rfl, rfl⟩ | refine Qh List.take_length (.keep (.v _)) ⟨by rw [Xc, hr, hl']; rfl, rfl⟩
def T.Qmx (t : T) : Bool := (t.run 200 20).1
theorem Qd6 (t : T) : Pure Tryz.prog 33 [t.av] (.b t.Qmx) := by
  intro h
  have ca := (QfF 20 t 200 (h.length + 1) (by omega) (by omega) (by omega)).at (h := h ++ [.cells 24 4 [t.av], .cells 91 1 [.agg [.i 200]]]) (by rw [hget]; rfl)
  rw [hset] at ca
  refine Qe Tryz.func33 rfl Tryz.call33 Tryz.ntmps33 (congrArg Array.toList Tryz.results33) (by simp) ?_
  repeat (first | ((first | (with_reducible (first | refine Qa fun K E hK hE => ?_ | refine FunW.ret (FunW.call ca) ?_))); simp -implicitDefEqProofs only [Qd, Qb, Qf, OpW, QQ, aop, undef, AS.ev, Qc, Qn, Qt, Qg, Qv, QmZ, AV.Qmr, Qo, QT, QB, Qnc, Qnd, Qs, Qu, QI, Qne, ↓reduceIte, Qm5, Qm6, Nat.reduceAdd, Nat.reduceLT, Nat.reduceLeDiff, Nat.reduceEqDiff, Qm4, Qnq, QG, QH, Xn, XE, Q0, hlen, happ, QmS, Qnm, Qnn, QmU, Qm7, Qnb, Qnk, Qnj, Qnl, Qna, Qm1, Qm9, T.Qmp, T.Qmq, ti24, zi91, sp91, T.Qmp, T.Qmq]) | (with_reducible refine Qm ?_) | ((with_reducible refine hK _ ?_); clear hK))
  simp only [QN, Qp, Qw, upd, ↓reduceIte, QmY, Qm2]; first | refine Qh (htake _ _) (.keep (.v _)) ⟨rfl, rfl⟩ | refine Qh List.take_length (.keep (.v _)) ⟨rfl, rfl⟩
def Qaj (op : Int) : Int := if op = 1 ∨ op = 2 then 0 else if op = 11 ∨ op = 12 then 1 else 2
def XN (g : G) : Bool := if g.op = 0 then Xc ⟨0, g.name, g.args⟩ else
  decide (0 < g.op ∧ g.op ≤ 12) && (ZX g.name && (decide ((g.args.length : Int) = Qaj g.op) && (runL g.args 200 20).1))
end Go.Proofs.YtehjodmnajgdgaaGreatDoor.Ab
set_option maxRecDepth 4000
namespace Go.Proofs.YtehjodmnajgdgaaGreatDoor.Ab
open Go.Proofs
theorem QbP {s : ByteArray} (h : Yp s = true) : 1 ≤ s.size ∧ s.size ≤ 40 := by
  rw [Yp, Bool.and_eq_true, decide_eq_true_eq] at h
  exact ⟨h.1.1, h.1.2.1⟩
theorem QeW (b : Bool) (x : ByteArray) : (encB b x).size ≤ x.size + 2 := by
  rw [encB]; split
  · rw [QU, QU]; have : lpa.size = 1 := rfl; have : rpa.size = 1 := rfl; omega
  · omega
theorem QhK (l : List ByteArray) : ∀ f, (Qan f l).size ≤ (l.map fun x => x.size + 2).sum := by
  induction l with
  | nil => intro f; rw [Qan]; simp
  | cons x l ih =>
    intro f
    have h1 := ih false
    rw [QiA f _ x l rfl, List.map_cons, List.sum_cons]
    split <;> omega
theorem Qkr (t : ByteArray) : (vOf t).size = t.size + 1 := by rw [vOf, QU]; have : ({ data := #[86] } : ByteArray).size = 1 := rfl; omega
theorem QdJ {s : ByteArray} (h : ZX s = true) : s.size = 0 := by
  rw [ZX, Qcw, decide_eq_true_eq] at h
  exact h
mutual
theorem T.QmL : ∀ (t : T) (b d : Int), (t.run b d).1 = true → t.lex ∧ (t.txt.size : Int) + 4 ≤ 60 * (b - (t.run b d).2) ∧ 0 < t.txt.size ∧ (t.run b d).2 ≤ b
  | .mk k i n l, b, d, h => by
    rw [T.run] at h ⊢
    split at h
    · cases h
    rename_i h1
    rw [if_neg h1]
    split at h
    · rename_i k0
      subst k0
      rw [if_pos rfl]
      simp only [Bool.and_eq_true, decide_eq_true_eq] at h
      obtain ⟨⟨hr, hn⟩, hl⟩ := h
      have hl' : l = [] := by simpa using hl
      subst hl'
      have hn' := QdJ hn
      have hz := QjM i (by omega) (by omega)
      have hp := QkH i
      have et : (T.mk 0 i n []).txt = decZ i := by rw [T.txt, if_neg (by simp [T.oper, T.kind]), if_pos rfl]
      rw [et]
      refine ⟨⟨fun _ => by omega, fun e => (by cases e), by simp, by omega, trivial⟩, ?_, hp, ?_⟩ <;> simp only <;> omega
    · rename_i k0
      rw [if_neg k0]
      split at h
      · rename_i k1
        subst k1
        rw [if_pos rfl]
        simp only [Bool.and_eq_true, decide_eq_true_eq] at h
        obtain ⟨⟨hr, hn⟩, hl⟩ := h
        have hl' : l = [] := by simpa using hl
        subst hl'
        have hn' := QdJ hn
        have hz := Qb7 (n := i.toNat) (by omega)
        have et : (T.mk 1 i n []).txt = vOf (decN i.toNat) := by rw [T.txt, if_neg (by simp [T.oper, T.kind]), if_neg k0, if_pos rfl]
        rw [et, Qkr]
        refine ⟨⟨fun e => (by cases e), fun _ => hr, by simp, by omega, trivial⟩, ?_, by omega, ?_⟩ <;> simp only <;> omega
      · rename_i k1
        rw [if_neg k1]
        split at h
        · rename_i k2
          subst k2
          rw [if_pos rfl]
          split at h
          · cases h
          rename_i h3
          rw [if_neg h3]
          split at h
          · cases h
          rename_i h4
          rw [if_neg h4]
          have hL := Qc7 l (b - 1) (d - 1) h
          have hll : l.length ≤ 6 := by omega
          have hns : 1 ≤ n.size ∧ n.size ≤ 40 := by
            simp only [Bool.not_eq_true', Bool.and_eq_true, not_and, Bool.not_eq_false, decide_eq_true_eq] at h4
            cases hrb : Yp n with
            | true => exact QbP hrb
            | false =>
              rw [hrb] at h4
              have hop : opB n = true := by
                cases ho : opB n with
                | true => rfl
                | false => rw [ho] at h4; simp at h4
              by_cases hs1 : n.size = 1
              · omega
              · rw [Qfm hs1] at hop; cases hop
          refine ⟨⟨fun e => (by cases e), fun e => (by cases e), by omega, by omega, hL.1⟩, ?_⟩
          by_cases ho : (T.mk 2 i n l).oper = 0
          · have et : (T.mk 2 i n l).txt = funT n (txts l) := by rw [T.txt, if_neg (by simpa using ho), if_neg k0, if_neg k1]
            rw [et, funT, QU]
            have e1 := QeW (decide (0 < (txts l).length)) (Qan true (txts l))
            have e2 := QhK (txts l) true
            have e3 := hL.2.1
            refine ⟨?_, ?_, ?_⟩ <;> omega
          · have hk : l.length = 2 := by
              simp only [T.oper] at ho
              split at ho
              · exact absurd rfl ho
              · rename_i hq; exact Decidable.byContradiction fun e => hq (.inr e)
            match l, hk, hL with
            | [a, c], _, hL =>
              have et : (T.mk 2 i n [a, c]).txt = binT (ofB n) n a.oper c.oper a.txt c.txt := by rw [T.txt, if_pos ho]; rfl
              rw [et, binT]
              simp only [QU]
              have hsp : ({ data := #[32] } : ByteArray).size = 1 := rfl
              have e1 := QeW ((a.oper == 1) && (ofB n == 2)) a.txt
              have e2 := QeW ((c.oper != 0) && ((c.oper == 1) || (ofB n == 2))) c.txt
              have e3 := hL.2.1
              have e4 := hL.2.2
              simp only [txts, Qm7, Qnb, List.sum_cons, List.sum_nil] at e3
              refine ⟨?_, ?_, ?_⟩ <;> omega
        · cases h
theorem Qc7 : ∀ (l : List T) (b d : Int), (runL l b d).1 = true → lexL l ∧ ((((txts l).map fun x => x.size + 2).sum : Nat) : Int) ≤ 60 * (b - (runL l b d).2) ∧ (runL l b d).2 ≤ b
  | [], b, d, h => by rw [runL]; exact ⟨trivial, by simp [txts], Int.le_refl _⟩
  | t :: l, b, d, h => by
    rw [runL] at h ⊢
    split at h
    · rename_i h1
      rw [if_pos h1]
      have ht := T.QmL t b d h1
      have hl := Qc7 l _ d h
      refine ⟨⟨ht.1, hl.1⟩, ?_, ?_⟩
      · rw [txts, List.map_cons, List.sum_cons]
        have := hl.2.1
        have := ht.2.1
        omega
      · have := hl.2.2; have := ht.2.2.2; omega
    · cases h
end
end Go.Proofs.YtehjodmnajgdgaaGreatDoor.Ab
set_option maxRecDepth 4000
namespace Go.Proofs.YtehjodmnajgdgaaGreatDoor.Ab
open Go.Proofs
inductive Res (α : Type) where
  | ok (a : α) (r : List UInt8)
  | err (e : Int)
def mkB (l : List UInt8) : ByteArray := ⟨l.toArray⟩
def isD (c : UInt8) : Bool := decide (48 ≤ c.toNat ∧ c.toNat ≤ 57)
def isL (c : UInt8) : Bool := decide (97 ≤ c.toNat ∧ c.toNat ≤ 122 ∨ 65 ≤ c.toNat ∧ c.toNat ≤ 90 ∨ c.toNat = 95)
def isW (c : UInt8) : Bool := isL c || isD c
def QV : List UInt8 → List UInt8
  | [] => []
  | c :: r => if c.toNat = 32 then QV r else c :: r
def headD : List UInt8 → Bool
  | c :: _ => isD c
  | [] => false
def ZD (l : List UInt8) : Nat := l.foldl (fun n c => 10 * n + (c.toNat - 48)) 0
def eB : ByteArray := { data := #[] }
def pInt (s : Bool) (sign : Int) : List UInt8 → Res T
  | [] => .err 16
  | c :: r => if c.toNat = 48 then (if sign < 0 ∨ (s && headD r) = true then .err 16 else .ok (.mk 0 0 eB []) r) else
    if ZD ((c :: r).takeWhile isD) ≤ 2147483648 then .ok (.mk 0 (sign * ZD ((c :: r).takeWhile isD)) eB []) ((c :: r).dropWhile isD) else .err 5
def varV (s : ByteArray) : Option Nat := match Lib.decFrom 0 (s.data.toList.drop 1) with
  | some k => if k ≤ 1048576 ∧ s.data.toList = (vOf (decN k)).data.toList then some k else none
  | none => none
def ZZ (ex : List UInt8 → Res T) : Nat → List T → List UInt8 → Res (List T)
  | 0, _, _ => .err 16
  | m + 1, l, r => match QV r with
    | [] => .err 16
    | c :: r2 => if c.toNat = 44 then (match ex r2 with
        | .ok t r3 => ZZ ex m (l ++ [t]) r3
        | .err e => .err e) else if c.toNat = 41 then .ok l r2 else .err 16
def Qaw (ex : List UInt8 → Res T) (r : List UInt8) : Res (List T) := match QV r with
  | [] => .ok [] []
  | c :: r2 => if c.toNat = 40 then (match ex r2 with
      | .ok t r3 => ZZ ex (r3.length + 1) [t] r3
      | .err e => .err e) else .ok [] (c :: r2)
def Z8 (ex : List UInt8 → Res T) (r : List UInt8) : Res T :=
  if (r.headD 0).toNat < 97 then (match varV (mkB (r.takeWhile isW)) with
    | some k => .ok (.mk 1 k eB []) (r.dropWhile isW)
    | none => .err 7) else
  if Yp (mkB (r.takeWhile isW)) = true then (match Qaw ex (r.dropWhile isW) with
    | .ok l r2 => .ok (.mk 2 0 (mkB (r.takeWhile isW)) l) r2
    | .err e => .err e) else .err 7
def QbM (s : Bool) (ex : List UInt8 → Res T) (r : List UInt8) : Res T := match QV r with
  | [] => .err 16
  | c :: r2 =>
    if isD c = true then pInt s 1 (c :: r2) else
    if c.toNat = 45 then (if headD r2 = true then pInt s (-1) r2 else .err 16) else
    if isL c = true then Z8 ex (c :: r2) else
    if c.toNat = 40 then (match ex r2 with
      | .ok t r3 => (match QV r3 with
        | d :: r4 => if d.toNat = 41 then .ok t r4 else .err 16
        | [] => .err 16)
      | .err e => .err e) else .err 16
def YT (op : List UInt8 → Res T) (st : Int) : Nat → T → List UInt8 → Res T
  | 0, t, r => .ok t (QV r)
  | m + 1, t, r => match QV r with
    | [] => .ok t []
    | c :: r2 => if ofB (mkB [c]) = st then (match op r2 with
        | .ok u r3 => YT op st m (.mk 2 0 (mkB [c]) [t, u]) r3
        | .err e => .err e) else .ok t (c :: r2)
def chain (op : List UInt8 → Res T) (st : Int) (r : List UInt8) : Res T := match op r with
  | .ok t r2 => YT op st (r2.length + 1) t r2
  | .err e => .err e
def QaQ (s : Bool) : Nat → List UInt8 → Res T
  | 0 => fun _ => .err 16
  | n + 1 => chain (chain (QbM s (QaQ s n)) 2) 1
def QaO (s : Bool) (l : List UInt8) : Res T := if 16384 < l.length then .err 6 else match QaQ s (l.length + 1) l with
  | .ok t r => if QV r ≠ [] then .err 16 else if (t.run 200 20).1 = true then .ok t [] else .err 6
  | .err e => .err e
def QaR (s : Bool) (l : List UInt8) : Res G := if 16384 < l.length then .err 6 else match QV l with
  | [] => .err 16
  | c :: r => if 97 ≤ c.toNat ∧ c.toNat ≤ 122 then (match Z8 (QaQ s (l.length + 1)) (c :: r) with
      | .ok t r2 => if QV r2 ≠ [] then .err 16 else if Xc ⟨0, t.name, t.args⟩ = true then .ok ⟨0, t.name, t.args⟩ [] else .err 6
      | .err e => .err e) else .err 16
def Bad : List UInt8 → Prop
  | c :: _ => isD c = true
  | [] => False
theorem Qat {r : List UInt8} (h : Bad r) : QV r = r := by
  cases r with
  | nil => rfl
  | cons c r =>
    have h : isD c = true := h
    simp only [isD, decide_eq_true_eq] at h
    rw [QV, if_neg (by omega)]
def RelR {α : Type} (a b : Res α) : Prop := a = b ∨ (b = .err 16 ∧ ∃ t r, a = .ok t r ∧ Bad r)
def RelF (f g : List UInt8 → Res T) : Prop := ∀ r, RelR (f r) (g r)
theorem Qj1 {c : UInt8} (h : isD c = true) : ofB (mkB [c]) = 0 := by
  simp only [isD, decide_eq_true_eq] at h
  have e : ∀ d : UInt8, d.toNat < 48 → (((mkB [c]).toList == ({ data := #[d] } : ByteArray).toList) = false) := fun d hd => by
    rw [Lib.toList_data, Lib.toList_data, beq_eq_false_iff_ne]
    intro hh
    have : c = d := by simpa [mkB] using hh
    subst this; omega
  rw [ofB, e 43 (by decide), e 45 (by decide), e 42 (by decide), e 47 (by decide), e 37 (by decide)]; rfl
theorem QjN (sign : Int) (r : List UInt8) : RelR (pInt false sign r) (pInt true sign r) := by
  cases r with
  | nil => exact .inl rfl
  | cons c r =>
    rw [pInt, pInt]
    by_cases h0 : c.toNat = 48
    · rw [if_pos h0, if_pos h0]
      by_cases hs : sign < 0
      · rw [if_pos (.inl hs), if_pos (.inl hs)]; exact .inl rfl
      · rw [if_neg (by simp [hs])]
        by_cases hd : headD r = true
        · rw [if_pos (.inr (by simp [hd]))]
          refine .inr ⟨rfl, _, _, rfl, ?_⟩
          cases r with
          | nil => simp [headD] at hd
          | cons d r => exact hd
        · rw [if_neg (by simp [hs, hd])]; exact .inl rfl
    · rw [if_neg h0, if_neg h0]; exact .inl rfl
theorem Qhw {ex : List UInt8 → Res T} {m : Nat} {l : List T} {r : List UInt8} (h : Bad r) : ZZ ex m l r = .err 16 := by
  cases m with
  | zero => rfl
  | succ m =>
    rw [ZZ, Qat h]
    cases r with
    | nil => rfl
    | cons c r =>
      have h : isD c = true := h
      simp only [isD, decide_eq_true_eq] at h
      simp only
      rw [if_neg (by omega), if_neg (by omega)]
theorem Qhy {f g : List UInt8 → Res T} (H : RelF f g) : ∀ (m : Nat) (l : List T) (r : List UInt8), ZZ f m l r = ZZ g m l r
  | 0, _, _ => rfl
  | m + 1, l, r => by
    rw [ZZ, ZZ]
    cases QV r with
    | nil => rfl
    | cons c r2 =>
      simp only
      by_cases h : c.toNat = 44
      · rw [if_pos h, if_pos h]
        rcases H r2 with e | ⟨e, t, r3, e2, hb⟩
        · rw [e]
          cases g r2 with
          | ok t r3 => exact Qhy H m _ r3
          | err e => rfl
        · rw [e, e2]; exact Qhw hb
      · rw [if_neg h, if_neg h]
theorem Qkt {f g : List UInt8 → Res T} (H : RelF f g) (r : List UInt8) : Qaw f r = Qaw g r := by
  rw [Qaw, Qaw]
  cases QV r with
  | nil => rfl
  | cons c r2 =>
    simp only
    by_cases h : c.toNat = 40
    · rw [if_pos h, if_pos h]
      rcases H r2 with e | ⟨e, t, r3, e2, hb⟩
      · rw [e]
        cases g r2 with
        | ok t r3 => exact Qhy H _ _ r3
        | err e => rfl
      · rw [e, e2]; exact Qhw hb
    · rw [if_neg h, if_neg h]
theorem QhD {f g : List UInt8 → Res T} (H : RelF f g) (r : List UInt8) : Z8 f r = Z8 g r := by
  rw [Z8, Z8, Qkt H]
theorem QkK {f g : List UInt8 → Res T} (H : RelF f g) : RelF (QbM false f) (QbM true g) := by
  intro r
  rw [QbM, QbM]
  cases QV r with
  | nil => exact .inl rfl
  | cons c r2 =>
    simp only
    by_cases h1 : isD c = true
    · rw [if_pos h1, if_pos h1]; exact QjN 1 _
    rw [if_neg h1, if_neg h1]
    by_cases h2 : c.toNat = 45
    · rw [if_pos h2, if_pos h2]
      by_cases h3 : headD r2 = true
      · rw [if_pos h3, if_pos h3]; exact QjN (-1) _
      · rw [if_neg h3, if_neg h3]; exact .inl rfl
    rw [if_neg h2, if_neg h2]
    by_cases h3 : isL c = true
    · rw [if_pos h3, if_pos h3, QhD H]; exact .inl rfl
    rw [if_neg h3, if_neg h3]
    by_cases h4 : c.toNat = 40
    · rw [if_pos h4, if_pos h4]
      rcases H r2 with e | ⟨e, t, r3, e2, hb⟩
      · rw [e]; exact .inl rfl
      · rw [e, e2]
        refine .inl ?_
        simp only
        rw [Qat hb]
        cases r3 with
        | nil => rfl
        | cons d r4 =>
          have hb : isD d = true := hb
          simp only [isD, decide_eq_true_eq] at hb
          simp only
          rw [if_neg (by omega)]
    · rw [if_neg h4, if_neg h4]; exact .inl rfl
theorem Qem {op : List UInt8 → Res T} {st : Int} (hst : st ≠ 0) {m : Nat} {t : T} {r : List UInt8} (h : Bad r) : YT op st m t r = .ok t r := by
  cases m with
  | zero => rw [YT, Qat h]
  | succ m =>
    rw [YT, Qat h]
    cases r with
    | nil => rfl
    | cons c r =>
      simp only
      rw [if_neg (by rw [Qj1 (show isD c = true from h)]; exact fun e => hst e.symm)]
theorem Qey {f g : List UInt8 → Res T} (H : RelF f g) {st : Int} (hst : st ≠ 0) : ∀ (m : Nat) (t : T) (r : List UInt8), RelR (YT f st m t r) (YT g st m t r)
  | 0, _, _ => .inl rfl
  | m + 1, t, r => by
    rw [YT, YT]
    cases QV r with
    | nil => exact .inl rfl
    | cons c r2 =>
      simp only
      by_cases h : ofB (mkB [c]) = st
      · rw [if_pos h, if_pos h]
        rcases H r2 with e | ⟨e, u, r3, e2, hb⟩
        · rw [e]
          cases g r2 with
          | ok u r3 => exact Qey H hst m _ r3
          | err e => exact .inl rfl
        · rw [e, e2]
          exact .inr ⟨rfl, .mk 2 0 (mkB [c]) [t, u], r3, Qem hst hb, hb⟩
      · rw [if_neg h, if_neg h]; exact .inl rfl
theorem Qf8 {f g : List UInt8 → Res T} (H : RelF f g) {st : Int} (hst : st ≠ 0) : RelF (chain f st) (chain g st) := by
  intro r
  rw [chain, chain]
  rcases H r with e | ⟨e, u, r3, e2, hb⟩
  · rw [e]
    cases g r with
    | ok t r2 => exact Qey H hst _ _ _
    | err e => exact .inl rfl
  · rw [e, e2]
    exact .inr ⟨rfl, _, _, Qem hst hb, hb⟩
theorem Qfn : ∀ n, RelF (QaQ false n) (QaQ true n)
  | 0 => fun _ => .inl rfl
  | n + 1 => Qf8 (Qf8 (QkK (Qfn n)) (by decide)) (by decide)
theorem Qe7 (l : List UInt8) : QaO false l = QaO true l := by
  rw [QaO, QaO]
  split
  · rfl
  rcases Qfn (l.length + 1) l with e | ⟨e, t, r, e2, hb⟩
  · rw [e]
  · rw [e, e2]
    simp only
    rw [Qat hb, if_pos]
    cases r with
    | nil => exact absurd hb (by simp [Bad])
    | cons c r => simp
theorem Qfe (l : List UInt8) : QaR false l = QaR true l := by
  rw [QaR, QaR]
  split
  · rfl
  cases QV l with
  | nil => rfl
  | cons c r => simp only; rw [QhD (Qfn _)]
theorem exP1 : QaO false [102, 40, 86, 49, 44, 50, 41, 42, 51] = .ok (.mk 2 0 ⟨#[42]⟩ [.mk 2 0 ⟨#[102]⟩ [.mk 1 1 eB [], .mk 0 2 eB []], .mk 0 3 eB []]) [] := by kernel_rfl
theorem exP2 : QaO false [102, 40, 88, 41] = .err 7 := by kernel_rfl
theorem exP3 : QaR false [108, 101, 113, 40, 32, 86, 48, 32, 44, 32, 97, 32, 41] = .ok ⟨0, ⟨#[108, 101, 113]⟩, [.mk 1 0 eB [], .mk 2 0 ⟨#[97]⟩ []]⟩ [] := by kernel_rfl
theorem exP4 : QaO false [49, 32, 50] = .err 16 := by kernel_rfl
end Go.Proofs.YtehjodmnajgdgaaGreatDoor.Ab
set_option maxRecDepth 4000
namespace Go.Proofs.YtehjodmnajgdgaaGreatDoor.Ab
open Go.Proofs
theorem Zl : ∀ r : List UInt8, (QV r).length ≤ r.length
  | [] => Nat.le_refl _
  | c :: r => by
    rw [QV]; split
    · have := Zl r; simp only [Qm5]; omega
    · exact Nat.le_refl _
theorem Xe {r r2 : List UInt8} {c : UInt8} (h : QV r = c :: r2) : r2.length < r.length := by
  have := Zl r
  rw [h, List.length_cons] at this; omega
def Eats {α : Type} (k : Nat) (f : List UInt8 → Res α) : Prop := ∀ r a r2, f r = .ok a r2 → r2.length + k ≤ r.length
theorem Z6 (p : UInt8 → Bool) (r : List UInt8) : (r.dropWhile p).length ≤ r.length := (List.dropWhile_sublist p).length_le
theorem Qfp (s : Bool) (sign : Int) {r r2 : List UInt8} {a : T} (h : pInt s sign r = .ok a r2) (hd : headD r = true) : r2.length + 1 ≤ r.length := by
  cases r with
  | nil => simp [headD] at hd
  | cons c r =>
    have hd : isD c = true := hd
    rw [pInt] at h
    split at h
    · split at h
      · cases h
      · cases h; simp
    · split at h
      · cases h
        rw [List.dropWhile_cons, if_pos hd]
        have := Z6 isD r
        simp only [Qm5]; omega
      · cases h
theorem Qgt {ex : List UInt8 → Res T} (H : Eats 0 ex) : ∀ (m : Nat) (l : List T) (r : List UInt8) (a : List T) (r2 : List UInt8), ZZ ex m l r = .ok a r2 → r2.length + 1 ≤ r.length
  | 0, _, _, _, _, h => by cases h
  | m + 1, l, r, a, r2, h => by
    rw [ZZ] at h
    cases hs : QV r with
    | nil => rw [hs] at h; cases h
    | cons c r3 =>
      have hl := Xe hs
      rw [hs] at h
      simp only at h
      split at h
      · cases he : ex r3 with
        | err e => rw [he] at h; cases h
        | ok t r4 =>
          rw [he] at h
          have h1 := H _ _ _ he
          have h2 := Qgt H m _ r4 a r2 h
          omega
      · split at h
        · cases h; omega
        · cases h
theorem QjY {ex : List UInt8 → Res T} (H : Eats 0 ex) {r r2 : List UInt8} {a : List T} (h : Qaw ex r = .ok a r2) : r2.length ≤ r.length := by
  rw [Qaw] at h
  have hl := Zl r
  cases hs : QV r with
  | nil => rw [hs] at h; cases h; exact Nat.zero_le _
  | cons c r3 =>
    rw [hs] at h hl
    simp only [Qm5] at h hl
    split at h
    · cases he : ex r3 with
      | err e => rw [he] at h; cases h
      | ok t r4 =>
        rw [he] at h
        have h1 := H _ _ _ he
        have h2 := Qgt H _ _ r4 a r2 h
        omega
    · cases h; simp only [Qm5]; omega
theorem Qjg {ex : List UInt8 → Res T} (H : Eats 0 ex) {c : UInt8} (hc : isW c = true) {r r2 : List UInt8} {a : T} (h : Z8 ex (c :: r) = .ok a r2) : r2.length + 1 ≤ (c :: r).length := by
  have hd : ((c :: r).dropWhile isW).length + 1 ≤ (c :: r).length := by
    rw [List.dropWhile_cons, if_pos hc]
    have := Z6 isW r
    simp only [Qm5]; omega
  rw [Z8] at h
  split at h
  · split at h
    · cases h; exact hd
    · cases h
  · split at h
    · cases ha : Qaw ex ((c :: r).dropWhile isW) with
      | err e => rw [ha] at h; cases h
      | ok l r3 =>
        rw [ha] at h
        cases h
        have := QjY H ha
        omega
    · cases h
theorem Qgb {c : UInt8} (h : isL c = true) : isW c = true := by rw [isW, h]; rfl
theorem QdD (s : Bool) {ex : List UInt8 → Res T} (H : Eats 0 ex) : Eats 1 (QbM s ex) := by
  intro r a r2 h
  rw [QbM] at h
  cases hs : QV r with
  | nil => rw [hs] at h; cases h
  | cons c r3 =>
    have hl := Zl r
    rw [hs] at h hl
    simp only [Qm5] at h hl
    split at h
    · rename_i hd
      have := Qfp s 1 h hd
      simp only [Qm5] at this; omega
    · split at h
      · split at h
        · rename_i hd
          have := Qfp s (-1) h hd
          omega
        · cases h
      · split at h
        · rename_i hw
          have := Qjg H (Qgb hw) h
          simp only [Qm5] at this; omega
        · split at h
          · cases he : ex r3 with
            | err e => rw [he] at h; cases h
            | ok t r4 =>
              rw [he] at h
              have h1 := H _ _ _ he
              simp only at h
              cases hs2 : QV r4 with
              | nil => rw [hs2] at h; cases h
              | cons d r5 =>
                have h2 := Xe hs2
                rw [hs2] at h
                simp only at h
                split at h
                · cases h; omega
                · cases h
          · cases h
theorem QdM {op : List UInt8 → Res T} (H : Eats 0 op) (st : Int) : ∀ (m : Nat) (t : T) (r : List UInt8) (a : T) (r2 : List UInt8), YT op st m t r = .ok a r2 → r2.length ≤ r.length
  | 0, t, r, a, r2, h => by rw [YT] at h; cases h; exact Zl r
  | m + 1, t, r, a, r2, h => by
    rw [YT] at h
    have hl := Zl r
    cases hs : QV r with
    | nil => rw [hs] at h; cases h; exact Nat.zero_le _
    | cons c r3 =>
      rw [hs] at h hl
      simp only [Qm5] at h hl
      split at h
      · cases he : op r3 with
        | err e => rw [he] at h; cases h
        | ok u r4 =>
          rw [he] at h
          have h1 := H _ _ _ he
          have h2 := QdM H st m _ r4 a r2 h
          omega
      · cases h; simp only [Qm5]; omega
theorem Qbj {op : List UInt8 → Res T} {k : Nat} (H : Eats k op) (st : Int) : Eats k (chain op st) := by
  intro r a r2 h
  rw [chain] at h
  cases he : op r with
  | err e => rw [he] at h; cases h
  | ok t r3 =>
    rw [he] at h
    have h1 := H _ _ _ he
    have h2 := QdM (fun r a r2 h => by have := H r a r2 h; omega) st _ _ _ _ _ h
    omega
theorem Eats.zero {α : Type} {k : Nat} {f : List UInt8 → Res α} (H : Eats k f) : Eats 0 f := fun r a r2 h => by have := H r a r2 h; omega
theorem Zx (s : Bool) : ∀ n, Eats 0 (QaQ s n)
  | 0 => fun r a r2 h => by cases h
  | n + 1 => (Qbj (Qbj (QdD s (Zx s n)) 2) 1).zero
theorem QgJ {op : List UInt8 → Res T} (H : Eats 0 op) (st : Int) : ∀ (n m m' : Nat) (t : T) (r : List UInt8), r.length ≤ n → n < m → n < m' → YT op st m t r = YT op st m' t r := by
  intro n
  induction n with
  | zero =>
    intro m m' t r hr h1 h2
    obtain ⟨a, rfl⟩ : ∃ a, m = a + 1 := ⟨m - 1, by omega⟩
    obtain ⟨b, rfl⟩ : ∃ a, m' = a + 1 := ⟨m' - 1, by omega⟩
    have : r = [] := List.eq_nil_of_length_eq_zero (by omega)
    subst this; rfl
  | succ n ih =>
    intro m m' t r hr h1 h2
    obtain ⟨a, rfl⟩ : ∃ a, m = a + 1 := ⟨m - 1, by omega⟩
    obtain ⟨b, rfl⟩ : ∃ a, m' = a + 1 := ⟨m' - 1, by omega⟩
    rw [YT, YT]
    cases hs : QV r with
    | nil => rfl
    | cons c r3 =>
      have hl := Xe hs
      simp only
      split
      · cases he : op r3 with
        | err e => rfl
        | ok u r4 =>
          have h1' := H _ _ _ he
          exact ih a b _ r4 (by omega) (by omega) (by omega)
      · rfl
theorem Qjc {ex : List UInt8 → Res T} (H : Eats 0 ex) : ∀ (n m m' : Nat) (l : List T) (r : List UInt8), r.length ≤ n → n < m → n < m' → ZZ ex m l r = ZZ ex m' l r := by
  intro n
  induction n with
  | zero =>
    intro m m' l r hr h1 h2
    obtain ⟨a, rfl⟩ : ∃ a, m = a + 1 := ⟨m - 1, by omega⟩
    obtain ⟨b, rfl⟩ : ∃ a, m' = a + 1 := ⟨m' - 1, by omega⟩
    have : r = [] := List.eq_nil_of_length_eq_zero (by omega)
    subst this; rfl
  | succ n ih =>
    intro m m' l r hr h1 h2
    obtain ⟨a, rfl⟩ : ∃ a, m = a + 1 := ⟨m - 1, by omega⟩
    obtain ⟨b, rfl⟩ : ∃ a, m' = a + 1 := ⟨m' - 1, by omega⟩
    rw [ZZ, ZZ]
    cases hs : QV r with
    | nil => rfl
    | cons c r3 =>
      have hl := Xe hs
      simp only
      split
      · cases he : ex r3 with
        | err e => rfl
        | ok u r4 =>
          have h1' := H _ _ _ he
          exact ih a b _ r4 (by omega) (by omega) (by omega)
      · rfl
end Go.Proofs.YtehjodmnajgdgaaGreatDoor.Ab
set_option maxRecDepth 4000
namespace Go.Proofs.YtehjodmnajgdgaaGreatDoor.Ab
open Go.Proofs
def Err (e : Int) : AV := .ifc 38 (.i e)
theorem Qam (n : Nat) (e : Int) : Below n (Err e) := .ifc _ _ (.v _)
theorem Qad (e : Int) : Pure Tryz.prog 54 [.b true, .i e] (.tup []) := by
  intro h
  refine Qe Tryz.func54 rfl Tryz.call54 Tryz.ntmps54 (congrArg Array.toList Tryz.results54) (by simp) ?_
  repeat (first | (((with_reducible refine Qa fun K E hK hE => ?_)); simp -implicitDefEqProofs only [Qd, Qb, Qf, OpW, aop, undef, AS.ev, Qc, Qg, Qv, QmZ, Qnf, ↓reduceIte, Nat.reduceLT, QmU, Xp]) | (with_reducible refine QD ?_) | ((with_reducible refine hK _ ?_); clear hK) | (refine Qk rfl ?_; simp only [↓reduceIte, QmW]))
  simp -implicitDefEqProofs only [QmU, QmY, List.mapM_nil, Option.pure_def, QmU, QN, Qp, Qm2]
  exact .inr ⟨rfl, rfl⟩
theorem QbR (e : Int) (h : AH) : Xf Tryz.prog 54 [.b false, .i e] h fun o h' => o = .panic (Err e) ∧ h' = h := by
  refine Qe Tryz.func54 rfl Tryz.call54 Tryz.ntmps54 (congrArg Array.toList Tryz.results54) (by simp) ?_
  repeat (first | ((first | (with_reducible (first | refine Qa fun K E hK hE => ?_ | refine Qr fun K E hK hE => ?_))); simp -implicitDefEqProofs only [Qd, Qb, Qf, OpW, aop, undef, AS.ev, Qc, Qg, Qv, QmZ, Qni, Qng, ↓reduceIte, Nat.reduceLT, Nat.reduceEqDiff, QmU, Xp, un38]) | ((with_reducible refine hK _ ?_); clear hK) | (refine Qk rfl ?_; simp only [↓reduceIte]) | (with_reducible refine hE _ _ ?_))
  exact Qh List.take_length (.keep (Qam _ _)) ⟨rfl, rfl⟩
theorem Qao (c : UInt8) : Pure Tryz.prog 93 [.v (.int .u8 (c.toNat : Nat))] (.b (isD c)) := by
  intro h
  by_cases h1 : (48 : Int) ≤ (c.toNat : Nat)
  · by_cases h2 : ((c.toNat : Nat) : Int) ≤ 57
    · refine Qe Tryz.func93 rfl Tryz.call93 Tryz.ntmps93 (congrArg Array.toList Tryz.results93) (by simp) ?_
      repeat (first | (((with_reducible refine Qa fun K E hK hE => ?_)); simp -implicitDefEqProofs only [Qd, Qb, Qf, OpW, aop, undef, AS.ev, Qc, Qn, Qt, Qg, Qv, QmZ, ↓reduceIte, Nat.reduceLT, Nat.reduceEqDiff, aBin, QmS, QmT, QmU, QmX, QmV, Q9, Qno, Qm0, h1, h2]) | (with_reducible refine Qm ?_) | ((with_reducible refine hK _ ?_); clear hK))
      simp only [QN, Qp, Qw, upd, ↓reduceIte, QmY, Qm2]; first | refine Qh (htake _ _) (.keep (.v _)) ⟨by rw [isD, decide_eq_true (by omega)], rfl⟩ | refine Qh List.take_length (.keep (.v _)) ⟨by rw [isD, decide_eq_true (by omega)], rfl⟩
    · refine Qe Tryz.func93 rfl Tryz.call93 Tryz.ntmps93 (congrArg Array.toList Tryz.results93) (by simp) ?_
      repeat (first | (((with_reducible refine Qa fun K E hK hE => ?_)); simp -implicitDefEqProofs only [Qd, Qb, Qf, OpW, aop, undef, AS.ev, Qc, Qn, Qt, Qg, Qv, QmZ, ↓reduceIte, Nat.reduceLT, Nat.reduceEqDiff, aBin, QmS, QmT, QmU, QmX, QmV, Q9, Qno, Qnp, Qm0, h1, h2]) | (with_reducible refine Qm ?_) | ((with_reducible refine hK _ ?_); clear hK))
      simp only [QN, Qp, Qw, upd, ↓reduceIte, QmY, Qm2]; first | refine Qh (htake _ _) (.keep (.v _)) ⟨by rw [isD, decide_eq_false (by omega)], rfl⟩ | refine Qh List.take_length (.keep (.v _)) ⟨by rw [isD, decide_eq_false (by omega)], rfl⟩
  · refine Qe Tryz.func93 rfl Tryz.call93 Tryz.ntmps93 (congrArg Array.toList Tryz.results93) (by simp) ?_
    repeat (first | (((with_reducible refine Qa fun K E hK hE => ?_)); simp -implicitDefEqProofs only [Qd, Qb, Qf, OpW, aop, undef, AS.ev, Qc, Qn, Qt, Qg, Qv, QmZ, ↓reduceIte, Nat.reduceLT, Nat.reduceEqDiff, aBin, QmS, QmT, QmU, QmX, QmV, Q9, Qnp, QmW, beq_true, h1]) | (with_reducible refine Qm ?_) | ((with_reducible refine hK _ ?_); clear hK))
    simp only [QN, Qp, Qw, upd, ↓reduceIte, QmY, Qm2]; first | refine Qh (htake _ _) (.keep (.v _)) ⟨by rw [isD, decide_eq_false (by omega)], rfl⟩ | refine Qh List.take_length (.keep (.v _)) ⟨by rw [isD, decide_eq_false (by omega)], rfl⟩
theorem QbT (c : UInt8) : Pure Tryz.prog 92 [.v (.int .u8 (c.toNat : Nat))] (.b (isL c)) := by
  intro h
  have yes : ∀ {p : Prop} [Decidable p], p → decide p = true := fun h => decide_eq_true h
  by_cases h1 : (97 : Int) ≤ (c.toNat : Nat)
  · by_cases h2 : ((c.toNat : Nat) : Int) ≤ 122
    · refine Qe Tryz.func92 rfl Tryz.call92 Tryz.ntmps92 (congrArg Array.toList Tryz.results92) (by simp) ?_
      iterate 4 (try (first | ((first | (with_reducible (first | refine Qa fun K E hK hE => ?_ | refine Qr fun K E hK hE => ?_))); simp -implicitDefEqProofs only [Qd, Qb, Qf, OpW, aop, AS.ev, Qc, Qt, Nat.reduceLT]) | (with_reducible refine Qi fun K hK => ?_) | ((with_reducible refine hK _ ?_); clear hK)))
      (with_reducible refine Qr fun K E hK hE => ?_)
      (try simp only [Qnt]); refine Qy 6 (fun K1 hK1 => ?_); simp -implicitDefEqProofs only [Qd, Qb, Qf, OpW, aop, undef, AS.ev, Qc, Qn, Qg, Qv, QmZ, ↓reduceIte, Nat.reduceLT, Nat.reduceEqDiff, aBin, QmS, QmT, QmU, QmX, QmV, Qm3, Qna, Q9, Qno, Qm0, h1, h2]; refine hK1 _ ?_; clear hK1
      (try simp only [Qm1, Qm9]); refine Qy 6 (fun K1 hK1 => ?_); simp -implicitDefEqProofs only [Qd, Qb, Qf, OpW, aop, undef, AS.ev, Qc, Qg, Qnf, ↓reduceIte, Nat.reduceLT, Nat.reduceEqDiff, QmS, QmT, QmX, QmV, Qm3, Qna, beq_false]; refine hK1 _ ?_; clear hK1
      (try simp only [Qm1, Qm9]); refine Qy 4 (fun K1 hK1 => ?_); simp -implicitDefEqProofs only [Qd, Qb, Qf, OpW, aop, undef, AS.ev, Qc, Qt, Qg, Qnf, ↓reduceIte, Nat.reduceLT, Nat.reduceEqDiff, QmS, QmT, QmX, QmV, Qm3, Qna, beq_false]; refine hK1 _ ?_; clear hK1
      (try simp only [Qm1, Qm9])
      simp -implicitDefEqProofs only [Qd, Qb, Qf, OpW, aop, undef, AS.ev, Qc, Qt, Qg, Qnf, ↓reduceIte, Nat.reduceLT, Nat.reduceEqDiff, QmS, QmT, QmX, QmV, beq_false]
      repeat (first | (with_reducible (first | refine Qm ?_ | refine Qj ?_)) | ((with_reducible refine hK _ ?_); clear hK))
      simp only [QN, Qp, Qw, upd, ↓reduceIte, QmY, Qm2]; first | refine Qh (htake _ _) (.keep (.v _)) ⟨by rw [isL, decide_eq_true (by omega)], rfl⟩ | refine Qh List.take_length (.keep (.v _)) ⟨by rw [isL, decide_eq_true (by omega)], rfl⟩
    · have h3 : (65 : Int) ≤ (c.toNat : Nat) := by omega
      have h4 : ¬ ((c.toNat : Nat) : Int) ≤ 90 := by omega
      have h5 : (((c.toNat : Nat) : Int) == 95) = false := by simp; omega
      refine Qe Tryz.func92 rfl Tryz.call92 Tryz.ntmps92 (congrArg Array.toList Tryz.results92) (by simp) ?_
      iterate 4 (try (first | ((first | (with_reducible (first | refine Qa fun K E hK hE => ?_ | refine Qr fun K E hK hE => ?_))); simp -implicitDefEqProofs only [Qd, Qb, Qf, OpW, aop, AS.ev, Qc, Qt, Nat.reduceLT]) | (with_reducible refine Qi fun K hK => ?_) | ((with_reducible refine hK _ ?_); clear hK)))
      (with_reducible refine Qr fun K E hK hE => ?_)
      (try simp only [Qnt]); refine Qy 6 (fun K1 hK1 => ?_); simp -implicitDefEqProofs only [Qd, Qb, Qf, OpW, aop, undef, AS.ev, Qc, Qn, Qg, Qv, QmZ, ↓reduceIte, Nat.reduceLT, Nat.reduceEqDiff, aBin, QmS, QmT, QmU, QmX, QmV, Qm3, Qna, Q9, Qno, Qnp, Qm0, h1, h2]; refine hK1 _ ?_; clear hK1
      (try simp only [Qm1, Qm9]); refine Qy 6 (fun K1 hK1 => ?_); simp -implicitDefEqProofs only [Qd, Qb, Qf, OpW, aop, undef, AS.ev, Qc, Qn, Qg, Qv, QmZ, ↓reduceIte, Nat.reduceLT, Nat.reduceEqDiff, aBin, QmS, QmT, QmU, QmX, QmV, Qm3, Qna, Q9, Qno, Qnp, Qm0, h3, h4]; refine hK1 _ ?_; clear hK1
      (try simp only [Qm1, Qm9]); refine Qy 4 (fun K1 hK1 => ?_); simp -implicitDefEqProofs only [Qd, Qb, Qf, OpW, aop, undef, AS.ev, Qc, Qg, Qv, QmZ, ↓reduceIte, Nat.reduceLT, Nat.reduceEqDiff, QmS, QmT, QmX, QmV, Qm3, Qna, Qm0, QmW]; refine hK1 _ ?_; clear hK1
      (try simp only [Qm1, Qm9])
      simp -implicitDefEqProofs only [Qd, Qb, Qf, OpW, aop, AS.ev, Qc, Qn, Qg, ↓reduceIte, Nat.reduceLT, Nat.reduceEqDiff, aBin, QmS, QmT, QmU, QmX, QmV, QR, Qm0, QmW, h5]
      repeat (first | (with_reducible (first | refine Qm ?_ | refine Qj ?_)) | ((with_reducible refine hK _ ?_); clear hK))
      simp only [QN, Qp, Qw, upd, ↓reduceIte, QmY, Qm2]; first | refine Qh (htake _ _) (.keep (.v _)) ⟨by rw [isL, decide_eq_false (by omega)], rfl⟩ | refine Qh List.take_length (.keep (.v _)) ⟨by rw [isL, decide_eq_false (by omega)], rfl⟩
  · by_cases h3 : (65 : Int) ≤ (c.toNat : Nat)
    · by_cases h4 : ((c.toNat : Nat) : Int) ≤ 90
      · refine Qe Tryz.func92 rfl Tryz.call92 Tryz.ntmps92 (congrArg Array.toList Tryz.results92) (by simp) ?_
        iterate 4 (try (first | ((first | (with_reducible (first | refine Qa fun K E hK hE => ?_ | refine Qr fun K E hK hE => ?_))); simp -implicitDefEqProofs only [Qd, Qb, Qf, OpW, aop, AS.ev, Qc, Qt, Nat.reduceLT]) | (with_reducible refine Qi fun K hK => ?_) | ((with_reducible refine hK _ ?_); clear hK)))
        (with_reducible refine Qr fun K E hK hE => ?_)
        (try simp only [Qnt]); refine Qy 6 (fun K1 hK1 => ?_); simp -implicitDefEqProofs only [Qd, Qb, Qf, OpW, aop, undef, AS.ev, Qc, Qn, Qt, Qg, Qv, QmZ, ↓reduceIte, Nat.reduceLT, Nat.reduceEqDiff, aBin, QmS, QmT, QmU, QmX, QmV, Qm3, Qna, Q9, Qnp, QmW, beq_true, h1]; refine hK1 _ ?_; clear hK1
        (try simp only [Qm1, Qm9]); refine Qy 6 (fun K1 hK1 => ?_); simp -implicitDefEqProofs only [Qd, Qb, Qf, OpW, aop, undef, AS.ev, Qc, Qn, Qg, Qv, QmZ, ↓reduceIte, Nat.reduceLT, Nat.reduceEqDiff, aBin, QmS, QmT, QmU, QmX, QmV, Qm3, Qna, Q9, Qno, Qm0, h3, h4]; refine hK1 _ ?_; clear hK1
        (try simp only [Qm1, Qm9]); refine Qy 4 (fun K1 hK1 => ?_); simp -implicitDefEqProofs only [Qd, Qb, Qf, OpW, aop, undef, AS.ev, Qc, Qg, Qnf, ↓reduceIte, Nat.reduceLT, Nat.reduceEqDiff, QmS, QmT, QmX, QmV, Qm3, Qna, Qm0, QmW, beq_false]; refine hK1 _ ?_; clear hK1
        (try simp only [Qm1, Qm9])
        simp -implicitDefEqProofs only [Qd, Qb, Qf, OpW, aop, undef, AS.ev, Qc, Qt, Qg, Qnf, ↓reduceIte, Nat.reduceLT, Nat.reduceEqDiff, QmS, QmT, QmX, QmV, beq_false]
        repeat (first | (with_reducible (first | refine Qm ?_ | refine Qj ?_)) | ((with_reducible refine hK _ ?_); clear hK))
        simp only [QN, Qp, Qw, upd, ↓reduceIte, QmY, Qm2]; first | refine Qh (htake _ _) (.keep (.v _)) ⟨by rw [isL, decide_eq_true (by omega)], rfl⟩ | refine Qh List.take_length (.keep (.v _)) ⟨by rw [isL, decide_eq_true (by omega)], rfl⟩
      · cases h5 : (((c.toNat : Nat) : Int) == 95) with
        | true =>
          have h6 : ((c.toNat : Nat) : Int) = 95 := by simpa using h5
          refine Qe Tryz.func92 rfl Tryz.call92 Tryz.ntmps92 (congrArg Array.toList Tryz.results92) (by simp) ?_
          iterate 4 (try (first | ((first | (with_reducible (first | refine Qa fun K E hK hE => ?_ | refine Qr fun K E hK hE => ?_))); simp -implicitDefEqProofs only [Qd, Qb, Qf, OpW, aop, AS.ev, Qc, Qt, Nat.reduceLT]) | (with_reducible refine Qi fun K hK => ?_) | ((with_reducible refine hK _ ?_); clear hK)))
          (with_reducible refine Qr fun K E hK hE => ?_)
          (try simp only [Qnt]); refine Qy 6 (fun K1 hK1 => ?_); simp -implicitDefEqProofs only [Qd, Qb, Qf, OpW, aop, undef, AS.ev, Qc, Qn, Qt, Qg, Qv, QmZ, ↓reduceIte, Nat.reduceLT, Nat.reduceEqDiff, aBin, QmS, QmT, QmU, QmX, QmV, Qm3, Qna, Q9, Qnp, QmW, beq_true, h1]; refine hK1 _ ?_; clear hK1
          (try simp only [Qm1, Qm9]); refine Qy 6 (fun K1 hK1 => ?_); simp -implicitDefEqProofs only [Qd, Qb, Qf, OpW, aop, undef, AS.ev, Qc, Qn, Qg, Qv, QmZ, ↓reduceIte, Nat.reduceLT, Nat.reduceEqDiff, aBin, QmS, QmT, QmU, QmX, QmV, Qm3, Qna, Q9, Qno, Qnp, Qm0, h3, h4]; refine hK1 _ ?_; clear hK1
          (try simp only [Qm1, Qm9]); refine Qy 4 (fun K1 hK1 => ?_); simp -implicitDefEqProofs only [Qd, Qb, Qf, OpW, aop, undef, AS.ev, Qc, Qg, Qv, QmZ, ↓reduceIte, Nat.reduceLT, Nat.reduceEqDiff, QmS, QmT, QmX, QmV, Qm3, Qna, Qm0, QmW]; refine hK1 _ ?_; clear hK1
          (try simp only [Qm1, Qm9])
          simp -implicitDefEqProofs only [Qd, Qb, Qf, OpW, aop, AS.ev, Qc, Qn, Qg, ↓reduceIte, Nat.reduceLT, Nat.reduceEqDiff, aBin, QmS, QmT, QmU, QmX, QmV, QR, Qm0, QmW, h5]
          repeat (first | (with_reducible (first | refine Qm ?_ | refine Qj ?_)) | ((with_reducible refine hK _ ?_); clear hK))
          simp only [QN, Qp, Qw, upd, ↓reduceIte, QmY, Qm2]; first | refine Qh (htake _ _) (.keep (.v _)) ⟨by rw [isL, decide_eq_true (by omega)], rfl⟩ | refine Qh List.take_length (.keep (.v _)) ⟨by rw [isL, decide_eq_true (by omega)], rfl⟩
        | false =>
          have h6 : ¬ ((c.toNat : Nat) : Int) = 95 := by simpa using h5
          refine Qe Tryz.func92 rfl Tryz.call92 Tryz.ntmps92 (congrArg Array.toList Tryz.results92) (by simp) ?_
          iterate 4 (try (first | ((first | (with_reducible (first | refine Qa fun K E hK hE => ?_ | refine Qr fun K E hK hE => ?_))); simp -implicitDefEqProofs only [Qd, Qb, Qf, OpW, aop, AS.ev, Qc, Qt, Nat.reduceLT]) | (with_reducible refine Qi fun K hK => ?_) | ((with_reducible refine hK _ ?_); clear hK)))
          (with_reducible refine Qr fun K E hK hE => ?_)
          (try simp only [Qnt]); refine Qy 6 (fun K1 hK1 => ?_); simp -implicitDefEqProofs only [Qd, Qb, Qf, OpW, aop, undef, AS.ev, Qc, Qn, Qt, Qg, Qv, QmZ, ↓reduceIte, Nat.reduceLT, Nat.reduceEqDiff, aBin, QmS, QmT, QmU, QmX, QmV, Qm3, Qna, Q9, Qnp, QmW, beq_true, h1]; refine hK1 _ ?_; clear hK1
          (try simp only [Qm1, Qm9]); refine Qy 6 (fun K1 hK1 => ?_); simp -implicitDefEqProofs only [Qd, Qb, Qf, OpW, aop, undef, AS.ev, Qc, Qn, Qg, Qv, QmZ, ↓reduceIte, Nat.reduceLT, Nat.reduceEqDiff, aBin, QmS, QmT, QmU, QmX, QmV, Qm3, Qna, Q9, Qno, Qnp, Qm0, h3, h4]; refine hK1 _ ?_; clear hK1
          (try simp only [Qm1, Qm9]); refine Qy 4 (fun K1 hK1 => ?_); simp -implicitDefEqProofs only [Qd, Qb, Qf, OpW, aop, undef, AS.ev, Qc, Qg, Qv, QmZ, ↓reduceIte, Nat.reduceLT, Nat.reduceEqDiff, QmS, QmT, QmX, QmV, Qm3, Qna, Qm0, QmW]; refine hK1 _ ?_; clear hK1
          (try simp only [Qm1, Qm9])
          simp -implicitDefEqProofs only [Qd, Qb, Qf, OpW, aop, AS.ev, Qc, Qn, Qg, ↓reduceIte, Nat.reduceLT, Nat.reduceEqDiff, aBin, QmS, QmT, QmU, QmX, QmV, QR, Qm0, QmW, h5]
          repeat (first | (with_reducible (first | refine Qm ?_ | refine Qj ?_)) | ((with_reducible refine hK _ ?_); clear hK))
          simp only [QN, Qp, Qw, upd, ↓reduceIte, QmY, Qm2]; first | refine Qh (htake _ _) (.keep (.v _)) ⟨by rw [isL, decide_eq_false (by omega)], rfl⟩ | refine Qh List.take_length (.keep (.v _)) ⟨by rw [isL, decide_eq_false (by omega)], rfl⟩
    · have h5 : (((c.toNat : Nat) : Int) == 95) = false := by simp; omega
      refine Qe Tryz.func92 rfl Tryz.call92 Tryz.ntmps92 (congrArg Array.toList Tryz.results92) (by simp) ?_
      iterate 4 (try (first | ((first | (with_reducible (first | refine Qa fun K E hK hE => ?_ | refine Qr fun K E hK hE => ?_))); simp -implicitDefEqProofs only [Qd, Qb, Qf, OpW, aop, AS.ev, Qc, Qt, Nat.reduceLT]) | (with_reducible refine Qi fun K hK => ?_) | ((with_reducible refine hK _ ?_); clear hK)))
      (with_reducible refine Qr fun K E hK hE => ?_)
      (try simp only [Qnt]); refine Qy 6 (fun K1 hK1 => ?_); simp -implicitDefEqProofs only [Qd, Qb, Qf, OpW, aop, undef, AS.ev, Qc, Qn, Qt, Qg, Qv, QmZ, ↓reduceIte, Nat.reduceLT, Nat.reduceEqDiff, aBin, QmS, QmT, QmU, QmX, QmV, Qm3, Qna, Q9, Qnp, QmW, beq_true, h1]; refine hK1 _ ?_; clear hK1
      (try simp only [Qm1, Qm9]); refine Qy 6 (fun K1 hK1 => ?_); simp -implicitDefEqProofs only [Qd, Qb, Qf, OpW, aop, undef, AS.ev, Qc, Qn, Qg, Qv, QmZ, ↓reduceIte, Nat.reduceLT, Nat.reduceEqDiff, aBin, QmS, QmT, QmU, QmX, QmV, Qm3, Qna, Q9, Qnp, Qm0, beq_true, h3]; refine hK1 _ ?_; clear hK1
      (try simp only [Qm1, Qm9]); refine Qy 4 (fun K1 hK1 => ?_); simp -implicitDefEqProofs only [Qd, Qb, Qf, OpW, aop, undef, AS.ev, Qc, Qt, Qg, Qv, QmZ, ↓reduceIte, Nat.reduceLT, Nat.reduceEqDiff, QmS, QmT, QmX, QmV, Qm3, Qna, Qm0, QmW]; refine hK1 _ ?_; clear hK1
      (try simp only [Qm1, Qm9])
      simp -implicitDefEqProofs only [Qd, Qb, Qf, OpW, aop, AS.ev, Qc, Qn, Qg, ↓reduceIte, Nat.reduceLT, Nat.reduceEqDiff, aBin, QmS, QmT, QmU, QmX, QmV, QR, Qm0, QmW, h5]
      repeat (first | (with_reducible (first | refine Qm ?_ | refine Qj ?_)) | ((with_reducible refine hK _ ?_); clear hK))
      simp only [QN, Qp, Qw, upd, ↓reduceIte, QmY, Qm2]; first | refine Qh (htake _ _) (.keep (.v _)) ⟨by rw [isL, decide_eq_false (by omega)], rfl⟩ | refine Qh List.take_length (.keep (.v _)) ⟨by rw [isL, decide_eq_false (by omega)], rfl⟩
theorem Qh0 (c : UInt8) : Pure Tryz.prog 91 [.v (.int .u8 (c.toNat : Nat))] (.b (isW c)) := by
  intro h
  have c1 := QbT c
  have c2 := Qao c
  cases h1 : isL c
  · rw [h1] at c1
    refine Qe Tryz.func91 rfl Tryz.call91 Tryz.ntmps91 (congrArg Array.toList Tryz.results91) (by simp) ?_
    repeat (first | ((first | (with_reducible (first | refine Qa fun K E hK hE => ?_ | refine Qz c1 ?_ | refine Qz c2 ?_))); simp -implicitDefEqProofs only [Qd, Qb, Qf, OpW, QQ, aop, undef, AS.ev, Qc, Qt, Qg, Qv, QmZ, ↓reduceIte, Nat.reduceLT, Nat.reduceEqDiff, QmS, QmT, QmX, QmV, Qm7, Qnb, Qm0, QmW]) | (with_reducible refine Qm ?_) | ((with_reducible refine hK _ ?_); clear hK))
    simp only [QN, Qp, Qw, upd, ↓reduceIte, QmY, Qm2]; first | refine Qh (htake _ _) (.keep (.v _)) ⟨by rw [isW, h1, Bool.false_or], rfl⟩ | refine Qh List.take_length (.keep (.v _)) ⟨by rw [isW, h1, Bool.false_or], rfl⟩
  · rw [h1] at c1
    refine Qe Tryz.func91 rfl Tryz.call91 Tryz.ntmps91 (congrArg Array.toList Tryz.results91) (by simp) ?_
    repeat (first | ((first | (with_reducible (first | refine Qa fun K E hK hE => ?_ | refine Qz c1 ?_))); simp -implicitDefEqProofs only [Qd, Qb, Qf, OpW, QQ, aop, undef, AS.ev, Qc, Qt, Qg, Qv, QmZ, Qnf, ↓reduceIte, Nat.reduceLT, Nat.reduceEqDiff, QmS, QmT, QmX, QmV, Qm7, Qnb, beq_false]) | (with_reducible refine Qm ?_) | ((with_reducible refine hK _ ?_); clear hK))
    simp only [QN, Qp, Qw, upd, ↓reduceIte, QmY, Qm2]; first | refine Qh (htake _ _) (.keep (.v _)) ⟨by rw [isW, h1, Bool.true_or], rfl⟩ | refine Qh List.take_length (.keep (.v _)) ⟨by rw [isW, h1, Bool.true_or], rfl⟩
end Go.Proofs.YtehjodmnajgdgaaGreatDoor.Ab
set_option maxRecDepth 4000
namespace Go.Proofs.YtehjodmnajgdgaaGreatDoor.Ab
open Go.Proofs Go.RowKit
theorem Qe1 (s : ByteArray) (hs : s.size ≤ 1000000) (v : Int) (h : Lib.atoiAll s.data.toList = .ok v) : Pure Tryz.prog 119 [.v (.string s)] (.tup [.i v, .v .nilIface]) :=
  QeO (vs := [.string s]) Tryz.call119 fun w => (Tryz.strconv_Atoi_ok s (by omega) v h w).mono (by
    rintro e w' ⟨rfl, hw⟩
    refine ⟨_, rfl, ?_, fun c' => QaI (.v _) (.v _)⟩
    rcases hw with rfl | ⟨t, rfl⟩
    · exact Go.RowKit.Below.refl _ _
    · exact Lib.bytesWorld_below w 5 t)
theorem Qe2 (s : ByteArray) : Pure Tryz.prog 115 [.v (.string s), .v (.string { data := #[32] })] (.v (.string ⟨(Lib.trimLeftB s.data.toList 32).toArray⟩)) :=
  QeO (vs := [.string s, .string ⟨#[32]⟩]) Tryz.call115 fun w => (Tryz.strings_TrimLeft_one s 32 (by decide) w).mono (by rintro e w' ⟨rfl, rfl⟩; exact ⟨_, rfl, Go.RowKit.Below.refl _ _, fun _ => .v _⟩)
end Go.Proofs.YtehjodmnajgdgaaGreatDoor.Ab
set_option maxRecDepth 4000
namespace Go.Proofs.YtehjodmnajgdgaaGreatDoor.Ab
open Go.Proofs Go.RowKit Go.Shelf
theorem QhX (t : ByteArray) : begV (vOf t) = true := by
  unfold begV
  rw [decide_eq_true_eq]
  have e : (vOf t).data.toList = 86 :: t.data.toList := Qbe _ _
  refine ⟨?_, ?_⟩
  · rw [Lib.size_eq, e, List.length_cons]; omega
  · unfold byteAt; rw [e]; rfl
theorem QhM (t : ByteArray) : cutV (vOf t) = t := by
  rw [cutV, if_pos (QhX t)]
  refine QbY ?_
  have e : (vOf t).data.toList = 86 :: t.data.toList := Qbe _ _
  rw [Lib.extract_eq, e]
  simp only [Qm1, Qm9]
  rw [Lib.size_eq, e, List.length_cons, Nat.add_sub_cancel, List.take_length]
theorem QjO {s t : ByteArray} (h : s ≠ t) : (s.toList == t.toList) = false := by
  rw [beq_eq_false_iff_ne, Lib.toList_data, Lib.toList_data]
  exact fun e => h (QbY e)
theorem QiP (s : ByteArray) : (s.toList == s.toList) = true := by simp
def Qhd (s : ByteArray) (k : Nat) : Prop := k ≤ 1048576 ∧ s = vOf (decN k)
def labB (n : Int) : ByteArray := if n < 0 ∨ n > 1048576 then { data := #[] } else vOf (decN n.toNat)
theorem QkX {k : Nat} (h : k ≤ 1048576) : labB k = vOf (decN k) := by
  unfold labB; rw [if_neg (by omega)]; rfl
theorem QiZ {s : ByteArray} (hb : begV s = true) (hno : ∀ k, ¬ Qhd s k) (n : Int) : labB n ≠ s := by
  unfold labB
  split
  · intro e
    subst e
    cases hb
  · rename_i h
    intro e
    exact hno n.toNat ⟨by omega, e.symm⟩
theorem Qj2 (n : Int) (h : AH) (hG : X9 h) : Xf Tryz.prog 73 [.i n] h fun o h' => o = .ret (.v (.string (labB n))) ∧ h' = h := by
  unfold labB
  split
  · rename_i hn; exact QkV n hn h
  · obtain ⟨k, rfl⟩ : ∃ k : Nat, n = k := ⟨n.toNat, by omega⟩
    exact QdC k (by omega) h hG
theorem Qgs (n : Int) : Pure Tryz.prog 75 [.i n] (.v (.string (labB n))) := by
  unfold labB
  split
  · rename_i hn; exact Qg5 n hn
  · obtain ⟨k, rfl⟩ : ∃ k : Nat, n = k := ⟨n.toNat, by omega⟩
    exact QeZ k (by omega)
theorem QiD (s : ByteArray) (hb : begV s = true) (hn : (cutV s).size ≤ 7) (v : Int) (h : AH) (H : Xf Tryz.prog 119 [.v (.string (cutV s))] h fun o h' => o = .ret (.tup [.i v, .ifc 148 .junk]) ∧ h' = h) :
    Xf Tryz.prog 94 [.v (.string s)] h fun o h' => o = .ret (.tup [.i 0, .b false]) ∧ h' = h := by
  have hsl := fun b => Yf Tryz.prog 9 3 (by kernel_rfl) b
  have hnn : ∀ H, notNil Tryz.prog 63 H (.ifc 148 .junk) .nilIface = true := fun H => by kernel_rfl
  have c := Qae s
  rw [hb] at c
  have m1 : ¬ ((cutV s).size : Int) > 7 := by omega
  refine Qe Tryz.func94 rfl Tryz.call94 Tryz.ntmps94 (congrArg Array.toList Tryz.results94) (by simp) ?_
  repeat (first | ((first | (with_reducible (first | refine Qa fun K E hK hE => ?_ | refine Qz c ?_ | refine FunW.ret (FunW.call H) ?_))); simp -implicitDefEqProofs only [Qd, Qb, Qf, OpW, QQ, aop, undef, AS.ev, Qc, Qn, Qt, QO, Xh, Qg, Qv, QmZ, Qnf, ↓reduceIte, Nat.reduceLT, Nat.reduceEqDiff, aBin, Xs, aLen, QmS, QmT, QmU, QmX, QmV, Qm7, Qnb, Xr, Xp, goInt, Qnp, Qm0, QmW, beq_false, hsl, m1, hnn]) | (with_reducible (first | refine Qi fun K hK => ?_ | refine Qm ?_ | refine QD ?_ | refine Qj ?_ | refine QA ?_)) | ((with_reducible refine hK _ ?_); clear hK) | (refine Qk rfl ?_; simp only [↓reduceIte, QmW]))
  simp -implicitDefEqProofs only [Qg, ↓reduceIte, Nat.reduceEqDiff, QmU, QmX, QmY, List.mapM_cons, List.mapM_nil, Option.pure_def, Option.bind_eq_bind, QN, Qp, Qw, Qm2]
  exact Qh List.take_length (.tup rfl (Xd (.keep (.v _)) (XS (.keep (.v _))))) ⟨rfl, rfl⟩
def QhC (h : AH) : Prop := (∃ tp p, HasG h 1 #[.iface tp p]) ∧ ∃ tp p, HasG h 2 #[.iface tp p]
theorem QgW (c' : Cx) (v : Int) (N : Nat) : Rel c' (.tup [.i v, .ifc 148 .junk]) (.tuple #[.int .i64 v, .iface 148 (.pointer (some ⟨N, 0, none⟩))]) :=
  QaI (.v _) (.ifc _ _ _ (.junk _))
theorem Qk7 (s : ByteArray) (hs : s.size ≤ 1000000) (hno : ∀ v, Lib.atoiAll s.data.toList ≠ .ok v) (h : AH) (hG : QhC h) : ∃ v, Xf Tryz.prog 119 [.v (.string s)] h fun o h' => o = .ret (.tup [.i v, .ifc 148 .junk]) ∧ h' = h := by
  obtain ⟨⟨t1, p1, g1⟩, t2, p2, g2⟩ := hG
  cases ha : Lib.atoiAll s.data.toList
  · exact absurd ha (hno _)
  · refine ⟨0, Qas (vs := [.string s]) Tryz.call119 fun c hst hh => ?_⟩
    have hv : c.w.var? Tryz.prog "strconv.ErrSyntax" = some #[.iface t1 p1] := HasG.var hst (hh ▸ g1) (by kernel_rfl)
    have H : Calls Tryz.prog 119 #[.string s] c.w fun e w' => ∃ N, e = .returned (.tuple #[.int .i64 0, .iface 148 (.pointer (some ⟨N, 0, none⟩))]) ∧ c.w.heap.size ≤ N ∧ w'.heap[N]? = some (.cells #[.string ⟨#[65, 116, 111, 105]⟩, .string s, .iface t1 p1] 161 (0, 0)) ∧ Go.RowKit.Below c.w.heap.size c.w w' :=
      Any.strconv_Atoi_syntax_var Tryz.laysC172 s (by omega) ha t1 p1 c.w hv
    refine H.mono ?_
    rintro e w' ⟨N, rfl, _, _, hb⟩
    exact ⟨_, rfl, hb, fun c' => QgW c' _ N⟩
  · refine ⟨Lib.atoiSat s.data.toList, Qas (vs := [.string s]) Tryz.call119 fun c hst hh => ?_⟩
    have hv : c.w.var? Tryz.prog "strconv.ErrRange" = some #[.iface t2 p2] := HasG.var hst (hh ▸ g2) (by kernel_rfl)
    have H : Calls Tryz.prog 119 #[.string s] c.w fun e w' => ∃ N, e = .returned (.tuple #[.int .i64 (Lib.atoiSat s.data.toList), .iface 148 (.pointer (some ⟨N, 0, none⟩))]) ∧ c.w.heap.size ≤ N ∧ w'.heap[N]? = some (.cells #[.string ⟨#[65, 116, 111, 105]⟩, .string s, .iface t2 p2] 161 (0, 0)) ∧ Go.RowKit.Below c.w.heap.size c.w w' :=
      Any.strconv_Atoi_range_var Tryz.laysC172 s (by omega) ha t2 p2 c.w hv
    refine H.mono ?_
    rintro e w' ⟨N, rfl, _, _, hb⟩
    exact ⟨_, rfl, hb, fun c' => QgW c' _ N⟩
theorem Qky (s : ByteArray) (hs : s.size ≤ 1000000) (ha : Lib.atoiAll s.data.toList = .range) (h : AH) (hG : QhC h) : Xf Tryz.prog 119 [.v (.string s)] h fun o h' => o = .ret (.tup [.i (Lib.atoiSat s.data.toList), .ifc 148 .junk]) ∧ h' = h := by
  obtain ⟨⟨t1, p1, g1⟩, t2, p2, g2⟩ := hG
  refine Qas (vs := [.string s]) Tryz.call119 fun c hst hh => ?_
  have hv : c.w.var? Tryz.prog "strconv.ErrRange" = some #[.iface t2 p2] := HasG.var hst (hh ▸ g2) (by kernel_rfl)
  have H : Calls Tryz.prog 119 #[.string s] c.w fun e w' => ∃ N, e = .returned (.tuple #[.int .i64 (Lib.atoiSat s.data.toList), .iface 148 (.pointer (some ⟨N, 0, none⟩))]) ∧ c.w.heap.size ≤ N ∧ w'.heap[N]? = some (.cells #[.string ⟨#[65, 116, 111, 105]⟩, .string s, .iface t2 p2] 161 (0, 0)) ∧ Go.RowKit.Below c.w.heap.size c.w w' :=
    Any.strconv_Atoi_range_var Tryz.laysC172 s (by omega) ha t2 p2 c.w hv
  refine H.mono ?_
  rintro e w' ⟨N, rfl, _, _, hb⟩
  exact ⟨_, rfl, hb, fun c' => QgW c' _ N⟩
theorem Qib (s : ByteArray) (k : Nat) (hk : Qhd s k) (h : AH) (hG : X9 h) : Xf Tryz.prog 94 [.v (.string s)] h fun o h' => o = .ret (.tup [.i k, .b true]) ∧ h' = h := by
  obtain ⟨hk1, rfl⟩ := hk
  have hsz := Qb7 hk1
  have H := Qe1 (decN k) (by omega) k (by rw [Qcf]; exact Qkp (by rw [Lib.decDigits_length, ← QbV]; omega)) h
  have := QfG (vOf (decN k)) (QhX _) (by rw [QhM]; omega) k h (by rw [QhM]; exact H) _ (QdC k hk1 h hG)
  rwa [if_pos (QiP _)] at this
theorem QgQ (s : ByteArray) (hno : ∀ k, ¬ Qhd s k) (h : AH) (hG : X9 h) (hE : QhC h) : Xf Tryz.prog 94 [.v (.string s)] h fun o h' => o = .ret (.tup [.i 0, .b false]) ∧ h' = h := by
  cases hb : begV s with
  | false => exact Qf1 s (.inl hb) h
  | true =>
    by_cases hn : (cutV s).size > 7
    · exact Qf1 s (.inr hn) h
    · cases ha : Lib.atoiAll (cutV s).data.toList with
      | ok v =>
        have := QfG s hb (by omega) v h (Qe1 (cutV s) (by omega) v ha h) _ (Qj2 v h hG)
        rwa [QjO (QiZ hb hno v), if_neg (by simp)] at this
      | _ =>
        obtain ⟨v, H⟩ := Qk7 (cutV s) (by omega) (fun v e => by rw [ha] at e; cases e) h hE
        exact QiD s hb (by omega) v h H
end Go.Proofs.YtehjodmnajgdgaaGreatDoor.Ab
set_option maxRecDepth 4000
namespace Go.Proofs.YtehjodmnajgdgaaGreatDoor.Ab
open Go.Proofs Go.RowKit
def Qbu (s : ByteArray) : List UInt8 := s.data.toList.drop 1
theorem Qgr {s : ByteArray} {i : Nat} (h1 : 1 ≤ i) (h : i < s.size) : (Qbu s)[i - 1]? = some (s.data.toList.getD i 0) := by
  unfold Qbu
  rw [List.getElem?_drop, show 1 + (i - 1) = i by omega]
  rw [Lib.size_eq] at h
  rw [List.getD_eq_getElem?_getD, List.getElem?_eq_getElem h]
  rfl
theorem Qif {s : ByteArray} {i : Nat} (h1 : 48 ≤ byteAt s i) (h2 : byteAt s i ≤ 57) : Lib.digitVal (s.data.toList.getD i 0) = some (byteAt s i - 48).toNat := by
  unfold byteAt at *
  unfold Lib.digitVal
  rw [if_pos (by omega)]
  congr 1; omega
theorem Qgl {s : ByteArray} {i : Nat} (h : byteAt s i < 48 ∨ 57 < byteAt s i) : Lib.digitVal (s.data.toList.getD i 0) = none := by
  unfold byteAt at *
  unfold Lib.digitVal
  rw [if_neg (by omega)]
theorem QhJ {s : ByteArray} {i : Nat} (h1 : 1 ≤ i) (h : i < s.size) (hd : byteAt s i < 48 ∨ 57 < byteAt s i) : Lib.decFrom 0 (Qbu s) = none := by
  cases hh : Lib.decFrom 0 (Qbu s) with
  | none => rfl
  | some n =>
    obtain ⟨d, e⟩ := Lib.digit_of_decFrom _ _ _ hh (i - 1) _ (Qgr h1 h)
    rw [Qgl hd] at e
    cases e
theorem QkA {s : ByteArray} {i v : Nat} (h1 : 1 ≤ i) (h : i < s.size) (hv : Lib.decFrom 0 ((Qbu s).take (i - 1)) = some v) (d1 : 48 ≤ byteAt s i) (d2 : byteAt s i ≤ 57) : Lib.decFrom 0 ((Qbu s).take i) = some (v * 10 + (byteAt s i - 48).toNat) := by
  have := Lib.decFrom_take (Qbu s) (i - 1) 0 v _ _ hv (Qgr h1 h) (Qif d1 d2)
  rwa [show i - 1 + 1 = i by omega] at this
theorem Qk5 {k : Nat} (h : k ≤ 9) : 10 ^ k ≤ 1000000000 := by
  have := Nat.pow_le_pow_right (n := 10) (by decide) h
  simpa using this
theorem Qjj {s : ByteArray} {i v : Nat} (h10 : i ≤ 10) (hv : Lib.decFrom 0 ((Qbu s).take (i - 1)) = some v) : v < 1000000000 := by
  have := decFrom_lt _ _ _ hv
  have h2 : ((Qbu s).take (i - 1)).length ≤ 9 := by rw [List.length_take]; omega
  have h3 := Qk5 h2
  omega
theorem Qlt {s : ByteArray} {v : Nat} (h1 : 1 ≤ s.size) (hv : Lib.decFrom 0 ((Qbu s).take (s.size - 1)) = some v) : Lib.decFrom 0 (Qbu s) = some v := by
  rw [List.take_of_length_le (by unfold Qbu; rw [List.length_drop, ← Lib.size_eq]; omega)] at hv
  exact hv
def refR (s : ByteArray) : AV := match Lib.decFrom 0 (Qbu s) with
  | some v => if (labB v).toList == s.toList then .tup [.i v, .b true] else .tup [.i 0, .b false]
  | none => .tup [.i 0, .b false]
theorem QbH (s₀ : ByteArray) (h2 : 2 ≤ s₀.size) (h10 : s₀.size ≤ 10) (hV : byteAt s₀ 0 = 86) : Pure Tryz.prog 135 [.v (.string s₀)] (refR s₀) := by
  intro h
  have hsl := fun b => Yf Tryz.prog 9 3 (by kernel_rfl) b
  have m1 : ¬ (s₀.size : Int) < 2 := by omega
  have m2 : ¬ (s₀.size : Int) > 10 := by omega
  have i0 := Zp Tryz.prog 9 (by kernel_rfl) s₀ (by omega)
  have m3 : (byteAt s₀ 0 != 86) = false := by simp [hV]
  have h11 : 1 ≤ s₀.size := by omega
  refine Qe Tryz.func135 rfl Tryz.call135 Tryz.ntmps135 (congrArg Array.toList Tryz.results135) (by simp) ?_
  repeat (first | (((with_reducible refine Qa fun K E hK hE => ?_)); simp -implicitDefEqProofs only [Qd, Qb, Qf, OpW, aop, undef, AS.ev, Qc, Qn, Qt, Qg, Qv, QmZ, ↓reduceIte, Nat.reduceLT, Nat.reduceEqDiff, aBin, aLen, QmS, QmT, QmU, QmX, QmV, Q2, Q3, Xr, goInt, Qnp, Qm0, QmW, hsl, m1, m2, i0, m3]) | (with_reducible (first | refine Qi fun K hK => ?_ | refine Qq ?_ | refine QD ?_ | refine Qj ?_)) | ((with_reducible refine hK _ ?_); clear hK) | (refine Qk rfl ?_; simp only [↓reduceIte, QmW]))
  obtain ⟨I, hI⟩ : ∃ I : Nat → AS → Prop, I = fun m' s => ∃ (i v : Nat), m' = s₀.size - i ∧ 1 ≤ i ∧ i ≤ s₀.size ∧ Lib.decFrom 0 ((Qbu s₀).take (i - 1)) = some v ∧ s.tm 0 = .v (.string s₀) ∧ s.tm 2 = .i v ∧ s.tm 4 = .i i ∧ s.h = h := ⟨_, rfl⟩; refine XJ I ?_ (m := s₀.size - 1) ?_
  · intro m' s hs; rw [hI] at hs; obtain ⟨tm, hp⟩ := s; dsimp only at hs; obtain ⟨i, v, rfl, hi1, hi2, hv, t0, t2, t4, rfl⟩ := hs
    by_cases hlt : i < s₀.size
    · have hix := YU Tryz.prog 9 (by kernel_rfl) s₀ i hlt
      by_cases d1 : byteAt s₀ i < 48
      · repeat (first | (((with_reducible refine Qa fun K E hK hE => ?_)); simp -implicitDefEqProofs only [Qd, Qb, Qf, OpW, aop, undef, AS.ev, Qc, Qn, Qt, Qg, Qnf, ↓reduceIte, Nat.reduceLT, Nat.reduceEqDiff, aBin, aLen, QmS, QmT, QmU, QmX, QmV, Q3, goInt, Qno, QnG, beq_false, t0, t4, hsl, hlt, hix, d1]) | (with_reducible (first | refine Qi fun K hK => ?_ | refine Qq ?_ | refine Qm ?_ | refine QD ?_ | refine Qj ?_ | refine QA ?_ | refine QJ ?_)) | ((with_reducible refine hK _ ?_); clear hK) | (refine Qk rfl ?_; simp only [↓reduceIte]))
        simp -implicitDefEqProofs only [Qg, ↓reduceIte, Nat.reduceEqDiff, QmU, QmX, QmY, List.mapM_cons, List.mapM_nil, Option.pure_def, Option.bind_eq_bind, QN, Qp, Qw, Qm2]
        exact Qh List.take_length (.tup rfl (Xd (.keep (.v _)) (XS (.keep (.v _))))) ⟨by rw [refR, QhJ hi1 hlt (.inl d1)], rfl⟩
      · by_cases d2 : byteAt s₀ i > 57
        · repeat (first | (((with_reducible refine Qa fun K E hK hE => ?_)); simp -implicitDefEqProofs only [Qd, Qb, Qf, OpW, aop, AS.ev, Qc, Qn, Qt, Qg, ↓reduceIte, Nat.reduceLT, Nat.reduceEqDiff, aBin, aLen, QmS, QmT, QmU, QmX, QmV, Q3, Xr, goInt, Qno, Qnp, Qm0, QnG, QmW, t0, t4, hsl, hlt, hix, d1, d2]) | (with_reducible (first | refine Qi fun K hK => ?_ | refine Qq ?_ | refine Qm ?_ | refine QD ?_ | refine Qj ?_ | refine QA ?_ | refine QJ ?_)) | ((with_reducible refine hK _ ?_); clear hK) | (refine Qk rfl ?_; simp only [↓reduceIte]))
          simp -implicitDefEqProofs only [Qg, ↓reduceIte, Nat.reduceEqDiff, QmU, QmX, QmY, List.mapM_cons, List.mapM_nil, Option.pure_def, Option.bind_eq_bind, QN, Qp, Qw, Qm2]
          exact Qh List.take_length (.tup rfl (Xd (.keep (.v _)) (XS (.keep (.v _))))) ⟨by rw [refR, QhJ hi1 hlt (.inr (by omega))], rfl⟩
        · have w8 : IntKind.u8.wrap (byteAt s₀ i - 48) = byteAt s₀ i - 48 := by simp [IntKind.wrap, IntKind.bits, IntKind.signed]; omega
          have hcv := QlP (byteAt s₀ i - 48) (by omega) (by omega)
          have hsm := Qjj (by omega) hv
          have hst := QkA hi1 hlt hv (by omega) (by omega)
          have w1 : IntKind.i64.wrap (10 * (v : Int)) = 10 * (v : Int) := YP (by omega)
          have w2 : IntKind.i64.wrap (10 * (v : Int) + (byteAt s₀ i - 48)) = ((v * 10 + (byteAt s₀ i - 48).toNat : Nat) : Int) := by rw [YP (by omega)]; omega
          repeat (first | ((first | (with_reducible (first | refine Qa fun K E hK hE => ?_ | refine Qr fun K E hK hE => ?_))); simp -implicitDefEqProofs only [Qd, Qb, Qf, OpW, aop, AS.ev, Qc, Qn, Qg, ↓reduceIte, Nat.reduceLT, Nat.reduceEqDiff, aBin, aLen, QmS, QmT, QmU, QmX, QmV, Q3, Xr, XK, Zc, Qhr, goInt, Qno, Qnp, Qm0, QnG, QmW, t0, t2, t4, hsl, hlt, hix, d1, d2, w8, hcv, w1, w2]) | (with_reducible (first | refine Qi fun K hK => ?_ | refine Qq ?_ | refine QD ?_ | refine Qj ?_ | refine QF ?_)) | ((with_reducible refine hK _ ?_); clear hK) | (refine Qk rfl ?_; simp only [↓reduceIte, QmW]))
          refine Yo.mk (m' := s₀.size - (i + 1)) (by omega) ?_
          rw [hI]
          refine ⟨i + 1, _, rfl, by omega, hlt, by rw [Nat.add_sub_cancel]; exact hst, t0, ?_, ?_, rfl⟩
          · simp only [upd, ↓reduceIte, Nat.reduceEqDiff]
          · simp only [upd, ↓reduceIte]
            rw [Zi (by omega)]
    · have hin : i = s₀.size := by omega
      subst hin
      have hend := Qlt h11 hv
      have c := Qgs v
      cases ht : ((labB v).toList == s₀.toList) with
      | true =>
        repeat (first | ((first | (with_reducible (first | refine Qa fun K E hK hE => ?_ | refine Qz c ?_))); simp -implicitDefEqProofs only [Qd, Qb, Qf, OpW, QQ, aop, AS.ev, Qc, Qt, Qg, Qnf, ↓reduceIte, Nat.reduceLT, Nat.reduceEqDiff, aBin, aLen, QmU, Qm7, Qnb, Q3, Yw, goInt, Qnp, QnG, t0, t2, t4, hsl, hlt, ht]) | (with_reducible (first | refine Qi fun K hK => ?_ | refine Qm ?_ | refine QD ?_ | refine Xb ?_ | refine Qj ?_ | refine Q5 ?_ | refine Q4 ?_)) | ((with_reducible refine hK _ ?_); clear hK) | (clear hK; (with_reducible refine hK _ ?_); clear hK) | (refine Qk rfl ?_; simp only [↓reduceIte, QmW]))
        simp -implicitDefEqProofs only [Qg, ↓reduceIte, Nat.reduceEqDiff, QmU, QmX, QmY, List.mapM_cons, List.mapM_nil, Option.pure_def, Option.bind_eq_bind, QN, Qp, Qw, Qm2]
        exact Qh List.take_length (.tup rfl (Xd (.keep (.v _)) (XS (.keep (.v _))))) ⟨by rw [refR, hend]; simp only [ht, if_true], rfl⟩
      | false =>
        repeat (first | ((first | (with_reducible (first | refine Qa fun K E hK hE => ?_ | refine Qz c ?_))); simp -implicitDefEqProofs only [Qd, Qb, Qf, OpW, QQ, aop, AS.ev, Qc, Qn, Qt, Qg, Qng, ↓reduceIte, Nat.reduceLT, Nat.reduceEqDiff, aBin, aLen, QmU, Qm7, Qnb, Q3, Yw, goInt, Qnp, QnG, t0, t2, t4, hsl, hlt, ht]) | (with_reducible (first | refine Qi fun K hK => ?_ | refine Qm ?_ | refine Xb ?_ | refine Qj ?_ | refine QA ?_ | refine Q5 ?_ | refine Q4 ?_)) | ((with_reducible refine hK _ ?_); clear hK) | (clear hK; (with_reducible refine hK _ ?_); clear hK) | (refine Qk rfl ?_; simp only [↓reduceIte, QmW]))
        simp -implicitDefEqProofs only [Qg, ↓reduceIte, Nat.reduceEqDiff, QmU, QmX, QmY, List.mapM_cons, List.mapM_nil, Option.pure_def, Option.bind_eq_bind, QN, Qp, Qw, Qm2]
        exact Qh List.take_length (.tup rfl (Xd (.keep (.v _)) (XS (.keep (.v _))))) ⟨by rw [refR, hend]; simp [ht], rfl⟩
  · rw [hI]
    exact ⟨1, 0, rfl, Nat.le_refl _, by omega, rfl, rfl, rfl, rfl, rfl⟩
theorem QfT (s : ByteArray) (hno : s.size < 2 ∨ s.size > 10 ∨ byteAt s 0 ≠ 86) : Pure Tryz.prog 135 [.v (.string s)] (.tup [.i 0, .b false]) := by
  intro h
  have hsl := fun b => Yf Tryz.prog 9 3 (by kernel_rfl) b
  by_cases m1 : (s.size : Int) < 2
  · refine Qe Tryz.func135 rfl Tryz.call135 Tryz.ntmps135 (congrArg Array.toList Tryz.results135) (by simp) ?_
    repeat (first | (((with_reducible refine Qa fun K E hK hE => ?_)); simp -implicitDefEqProofs only [Qd, Qb, Qf, OpW, aop, undef, AS.ev, Qc, Qn, Qt, Qg, Qv, QmZ, Qnf, ↓reduceIte, Nat.reduceLT, Nat.reduceEqDiff, aBin, aLen, QmS, QmT, QmU, QmX, QmV, Q3, goInt, Qno, beq_false, hsl, m1]) | (with_reducible (first | refine Qi fun K hK => ?_ | refine Qm ?_ | refine QA ?_)) | ((with_reducible refine hK _ ?_); clear hK) | (refine Qk rfl ?_; simp only [↓reduceIte]))
    simp -implicitDefEqProofs only [Qg, ↓reduceIte, Nat.reduceEqDiff, QmU, QmX, QmY, List.mapM_cons, List.mapM_nil, Option.pure_def, Option.bind_eq_bind, QN, Qp, Qw, Qm2]
    exact Qh List.take_length (.tup rfl (Xd (.keep (.v _)) (XS (.keep (.v _))))) ⟨rfl, rfl⟩
  · by_cases m2 : (s.size : Int) > 10
    · refine Qe Tryz.func135 rfl Tryz.call135 Tryz.ntmps135 (congrArg Array.toList Tryz.results135) (by simp) ?_
      repeat (first | (((with_reducible refine Qa fun K E hK hE => ?_)); simp -implicitDefEqProofs only [Qd, Qb, Qf, OpW, aop, undef, AS.ev, Qc, Qn, Qt, Qg, Qv, QmZ, Qnf, ↓reduceIte, Nat.reduceLT, Nat.reduceEqDiff, aBin, aLen, QmS, QmT, QmU, QmX, QmV, Q3, Xr, goInt, Qno, Qnp, Qm0, QmW, beq_false, hsl, m1, m2]) | (with_reducible (first | refine Qi fun K hK => ?_ | refine Qm ?_ | refine QA ?_)) | ((with_reducible refine hK _ ?_); clear hK) | (refine Qk rfl ?_; simp only [↓reduceIte]))
      simp -implicitDefEqProofs only [Qg, ↓reduceIte, Nat.reduceEqDiff, QmU, QmX, QmY, List.mapM_cons, List.mapM_nil, Option.pure_def, Option.bind_eq_bind, QN, Qp, Qw, Qm2]
      exact Qh List.take_length (.tup rfl (Xd (.keep (.v _)) (XS (.keep (.v _))))) ⟨rfl, rfl⟩
    · have i0 := Zp Tryz.prog 9 (by kernel_rfl) s (by omega)
      have m3 : (byteAt s 0 != 86) = true := by simp; omega
      refine Qe Tryz.func135 rfl Tryz.call135 Tryz.ntmps135 (congrArg Array.toList Tryz.results135) (by simp) ?_
      repeat (first | (((with_reducible refine Qa fun K E hK hE => ?_)); simp -implicitDefEqProofs only [Qd, Qb, Qf, OpW, aop, undef, AS.ev, Qc, Qn, Qt, Qg, Qv, QmZ, ↓reduceIte, Nat.reduceLT, Nat.reduceEqDiff, aBin, aLen, QmS, QmT, QmU, QmX, QmV, Q2, Q3, Xr, goInt, Qnp, Qm0, QmW, hsl, m1, m2, i0, m3]) | (with_reducible (first | refine Qi fun K hK => ?_ | refine Qm ?_ | refine QA ?_)) | ((with_reducible refine hK _ ?_); clear hK) | (refine Qk rfl ?_; simp only [↓reduceIte]))
      simp -implicitDefEqProofs only [Qg, ↓reduceIte, Nat.reduceEqDiff, QmU, QmX, QmY, List.mapM_cons, List.mapM_nil, Option.pure_def, Option.bind_eq_bind, QN, Qp, Qw, Qm2]
      exact Qh List.take_length (.tup rfl (Xd (.keep (.v _)) (XS (.keep (.v _))))) ⟨rfl, rfl⟩
theorem QfA (s : ByteArray) (k : Nat) (hk : Qhd s k) : Pure Tryz.prog 135 [.v (.string s)] (.tup [.i k, .b true]) := by
  obtain ⟨hk1, rfl⟩ := hk
  have e : (vOf (decN k)).data.toList = 86 :: (decN k).data.toList := Qbe _ _
  have hsz : (vOf (decN k)).size = 1 + (decN k).size := by rw [Lib.size_eq, e, List.length_cons, ← Lib.size_eq]; omega
  have h7 := Qb7 hk1
  have h1 := Qht k
  have := QbH (vOf (decN k)) (by omega) (by omega) (by unfold byteAt; rw [e]; rfl)
  have hr : Qbu (vOf (decN k)) = Lib.decDigits k := by unfold Qbu; rw [e]; rfl
  have hR : refR (vOf (decN k)) = .tup [.i k, .b true] := by
    unfold refR
    rw [hr, QbQ]
    simp only [QkX hk1, QiP, if_true]
  rwa [hR] at this
theorem Qeb (s : ByteArray) (hno : ∀ k, ¬ Qhd s k) : Pure Tryz.prog 135 [.v (.string s)] (.tup [.i 0, .b false]) := by
  by_cases hc : s.size < 2 ∨ s.size > 10 ∨ byteAt s 0 ≠ 86
  · exact QfT s hc
  · have hV : byteAt s 0 = 86 := by omega
    have := QbH s (by omega) (by omega) hV
    have hR : refR s = .tup [.i 0, .b false] := by
      unfold refR
      split
      · rename_i v hv
        rw [QjO (QiZ (by unfold begV; rw [decide_eq_true_eq]; exact ⟨by omega, hV⟩) hno v)]
        rfl
      · rfl
    rwa [hR] at this
end Go.Proofs.YtehjodmnajgdgaaGreatDoor.Ab
namespace Go.Proofs.YtehjodmnajgdgaaGreatDoor.Ab
theorem Qa0 {P : Program} {F : Fence} {n : Nat} {f : FuncId} {fn : Func} {c : Code} {args : Array Value} {u : FrameMode} {w : World} {R : Ending → World → Prop} {u2 : FrameMode}
    (hf : P.funcs[f]? = some fn) (hb : fn.body = some c) (hF : F.fn f)
    (h : ∀ (c₀ : Frame) (cs : List Frame), c₀.mode = u → c.wpSIn F n P (fun e a' cs' w' => cs' = { c₀ with mode := u2 } :: cs ∧ bodyPostM F n P fn R e a' w') { tmps := args ++ Array.replicate (fn.ntmps - args.size) undef, defers := [] } (c₀ :: cs) w) (hro : F.round = none) :
    CallsDIn F n P f args u w fun e u' w' => u' = u2 ∧ R e w' := by
  refine ⟨hF, fun c₀ cs hu hr => ?_⟩
  let b : Frame := { (default : Frame) with fn := f, kind := .deferred, roundOf := none }
  have henter : Frame.enter P f args .deferred =
      b.atR { tmps := args ++ Array.replicate (fn.ntmps - args.size) undef, defers := [] } [.code c] := by
    simp [Frame.enter, Frame.atR, hf, hb, b]
  obtain ⟨e, a', cs', w', hlen, ⟨rfl, hq⟩, harr⟩ := h c₀ cs hu b [] rfl rfl hF hr
  have hr' : F.room (({ c₀ with mode := u2 } :: cs).length + 1 + n) := hr
  rw [← henter] at harr
  cases e with
  | normal =>
    obtain ⟨e', w'', fr', hR, hs, hfn, hk, hl⟩ := Zk a'.defers .returning w' { b.atR a' [] with mode := .returning } ({ c₀ with mode := u2 } :: cs) rfl rfl rfl hf rfl hF hr' hq
    exact ⟨e', u2, w'', fr', ⟨rfl, hR⟩, ComesIn.of_steps (StepsIn.trans harr (.one (fenced_calm (fr := b.atR a' []) hF hr' rfl) (stepR_end rfl))) hs, hk, hfn, hl⟩
  | ret =>
    obtain ⟨todo, hs₀⟩ := harr.1 rfl
    obtain ⟨e', w'', fr', hR, hs, hfn, hk, hl⟩ := Zk a'.defers .returning w' { b.atR a' todo with mode := .returning } ({ c₀ with mode := u2 } :: cs) rfl rfl rfl hf rfl hF hr' hq
    exact ⟨e', u2, w'', fr', ⟨rfl, hR⟩, ComesIn.of_steps hs₀ hs, hk, hfn, hl⟩
  | panic chain =>
    obtain ⟨todo, hs₀⟩ := harr
    obtain ⟨e', w'', fr', hR, hs, hfn, hk, hl⟩ := Zk a'.defers (.panicking chain) w' { b.atR a' todo with mode := .panicking chain } ({ c₀ with mode := u2 } :: cs) rfl rfl rfl hf rfl hF hr' hq
    exact ⟨e', u2, w'', fr', ⟨rfl, hR⟩, ComesIn.of_steps hs₀ hs, hk, hfn, hl⟩
  | exit id => exact hq.elim
  | goto l => exact hq.elim
  | outgrown => exact ⟨.outgrown, u2, w', b, ⟨rfl, hq⟩, harr.resolve_left (by simp [b]), rfl, rfl, trivial⟩
def recV : AMode → AV
  | .pan v false => v
  | _ => .v .nilIface
def recM : AMode → AMode
  | .pan v false => .pan v true
  | m => m
end Go.Proofs.YtehjodmnajgdgaaGreatDoor.Ab
namespace Go.Proofs.YtehjodmnajgdgaaGreatDoor.Ab
theorem Qld {S : Nat → Bool} : ∀ {l : List Tr} {f : AH}, (∀ t ∈ l, t.c < 2) → hS S l f = f
  | l, f, H => Z2 fun t ht h2 => by have := H t ht; omega
theorem QiF {P : Program} {N : Nat} {base : Bs × Fence} {ops : Array Oper} {F : Fence} {n : Nat} (hF : WF F) {Qx : Exit → Act → World → Prop} {x : Nat} {ox : Oper} {f : Operand} {asx : Array Operand} {tys : Array TypeId} (hox : ops[x]? = some ox)
    (hop : ox.op = .call ⟨.value f, asx, tys⟩) {tr : List Tr} {tm0 : Nat → AV} {h0 : AH} (hruns : Runs P N ops tr tm0 h0) (hlow : ∀ t ∈ tr, t.c < 2) (hxt : ∀ t ∈ tr, t.i ≠ x)
    (hpw : tr.Pairwise (fun a b => clash ops a.o b.o a.c b.c = true → Anc ops a.i b.i)) (hnd : (tr.map (·.i)).Nodup) (hkind : ∀ t ∈ tr, kindOk t.o t.c = true)
    (hrd : ∀ t ∈ tr, ∀ d, t.o.dst = some d → d ∈ readsOf ops ox → Anc ops t.i x) (hall : ∀ i, i < ops.size → (∃ t ∈ tr, t.i = i) ∨ i = x ∨ Anc ops x i) (htopo : topo ops [] (tr.map (fun t => (t.i, t.c)) ++ [(x, 1)]) = true)
    (haw : Qf ops (tmS N (fun _ => true) tr tm0) ox = some true) {G : AV → AH → Prop} (H : FunW P (AS.ev ⟨tmS N (fun _ => true) tr tm0, []⟩ f) (asx.toList.map (AS.ev ⟨tmS N (fun _ => true) tr tm0, []⟩)) h0 (fun o h' => ∃ v, o = .panic v ∧ G v h')) :
    ∀ (fuel : Nat) (listed : Array Bool) (c : Cx) (a : Act), listed.size = ops.size → Down ops (fun i => listed.getD i false) → listed.getD x false = false → St c → SR N base c ⟨tmS N (fun i => listed.getD i false) tr tm0, h0⟩ a →
      tr.countP (fun t => !listed.getD t.i false) < fuel →
      (∀ tm' v h' c' a' u, G v h' → Ev c c' → St c' → SR N base c' ⟨tm', h'⟩ a' → Rel c' v u → Qx (.panic [{ v := u, recovered := false }]) a' c'.w) → wpAnyIn F n P .any ops Qx fuel listed a c.w := by
  intro fuel
  induction fuel with
  | zero => intro listed c a hsz hd hx hst hr hc hQ; omega
  | succ fuel ih =>
    intro listed c a hsz hd hx hst hr hc hQ
    refine ⟨fun h => ?_, fun i hi => ?_⟩
    · exfalso
      have := Qb1 hsz h _ [] htopo (fun i hi => by cases hi) (x, 1) (List.mem_append_right _ (by simp))
      simp only at this
      rw [hx] at this; cases this
    have hi' := hi
    obtain ⟨h1, o, ho, _⟩ := mem_ready.1 hi'
    have hlt : i < ops.size := (Array.getElem?_eq_some_iff.1 ho).1
    have hd' := QdT hsz hd hi
    by_cases hix : i = x
    · subst hix
      rw [hox] at ho; cases ho
      -- what it reads is there
      have hreads : ∀ y ∈ readsOf ops ox, tmS N (fun i => listed.getD i false) tr tm0 y = tmS N (fun _ => true) tr tm0 y := fun y hy => ZN rfl fun t ht hd => by
        have ha := hrd t ht y hd hy
        have h2 : (listed.setIfInBounds i true).getD t.i false = true := hd'.anc ha (by rw [ZL (by omega)]; simp)
        rw [ZL (by omega)] at h2
        by_cases hti : t.i = i
        · exact absurd hti (hxt t ht)
        · simpa [hti] using h2
      unfold wpOpIn
      simp only [hox]
      rw [XP hr (by rw [QbW (tm := tmS N (fun i => listed.getD i false) tr tm0) (tm' := tmS N (fun _ => true) tr tm0) hreads]; exact haw)]
      simp only [if_true]
      have hargs : ∀ y ∈ ox.op.operands, AS.ev ⟨tmS N (fun i => listed.getD i false) tr tm0, []⟩ y = AS.ev ⟨tmS N (fun _ => true) tr tm0, []⟩ y := QeM hreads
      refine Qa5 (K := fun _ => False) (E := fun r s' => G r s'.h) ?_ hF hst hr (fun s' c' a' hs => hs.elim) ?_
      · unfold OpW
        simp only [hop]
        have hev := hargs
        rw [hop] at hev
        have h1' : AS.ev ⟨tmS N (fun i => listed.getD i false) tr tm0, h0⟩ f = AS.ev ⟨tmS N (fun _ => true) tr tm0, []⟩ f := (QbE _ _ _ _).trans (hev f (by simp [Op.operands, Call.operands]))
        have h2' : asx.toList.map (AS.ev ⟨tmS N (fun i => listed.getD i false) tr tm0, h0⟩) = asx.toList.map (AS.ev ⟨tmS N (fun _ => true) tr tm0, []⟩) := List.map_congr_left fun y hy => (QbE _ _ _ _).trans (hev y (by simp [Op.operands, Call.operands, Array.mem_def, hy]))
        rw [h1', h2']
        refine H.mono ?_
        rintro o h' ⟨v, rfl, g⟩
        exact g
      · intro r s' c' u hE hev hst' hr' hru
        obtain ⟨tm', h'⟩ := s'
        exact hQ tm' r h' c' a u hE hev hst' hr' hru
    · have hx' : (listed.setIfInBounds i true).getD x false = false := by rw [ZL (by omega), hx]; simp; exact fun e => hix e.symm
      rcases hall i hlt with ⟨t, ht, hti⟩ | h | h
      · have e0 : ∀ S, hS S tr h0 = h0 := fun S => Qld hlow
        refine Qdi hF hruns hpw hnd hkind hi ht hti hsz (fun i j h hj => hd.anc h hj) (fun i j h hj => hd'.anc h hj) hst (by rw [e0]; exact hr) fun c' a' hev hst' hr' => ?_
        rw [e0] at hr'
        refine ih _ c' a' (by simpa using hsz) hd' hx' hst' hr' ?_ fun tm' v h' c2 a2 u g e2 s2 r2 ru => hQ tm' v h' c2 a2 u g (Ev.trans hst hev e2) s2 r2 ru
        have := ZY (fuel := tr.countP (fun t => !listed.getD t.i false) - 1) hsz ⟨t, ht, hti⟩ hi (by omega)
        have hpos : 0 < tr.countP (fun t => !listed.getD t.i false) := by
          rw [List.countP_pos_iff]
          refine ⟨t, ht, ?_⟩
          rw [Array.getD_eq_getD_getElem?, Array.getElem?_eq_getElem (by omega)] at h1 ⊢
          subst hti
          simpa using h1
        omega
      · exact absurd h hix
      · exfalso
        have h2 : (listed.setIfInBounds i true).getD x false = true := hd'.anc h (by rw [ZL (by omega)]; simp)
        rw [hx'] at h2; cases h2
def Ql0 (ops : Array Oper) (x : Nat) (ρ : List (Nat × Nat)) : Bool :=
  decide (ρ.length < ops.size) && QdR ops (masks ops.toList []) ρ && topo ops [] (ρ ++ [(x, 1)]) && Qil (ρ.map (·.1)) && (ρ.all fun p => decide (p.2 < 2) && !(p.1 == x) && (match ops[p.1]? with | some o => kindOk o p.2 && (match ops[x]?, o.dst with | some ox, some d => !(readsOf ops ox).contains d || ((masks ops.toList []).getD x 0).testBit p.1 | _, _ => true) | none => false)) &&
  ((List.range ops.size).all fun i => (ρ.map (·.1)).contains i || i == x || ((masks ops.toList []).getD i 0).testBit x)
def callOf (o : Oper) : Option (Operand × List Operand) := match o.op with
  | .call ⟨.value f, asx, _⟩ => some (f, asx.toList)
  | _ => none
theorem QcW {P : Program} {N : Nat} {Q : AExit → AS → Prop} {s : AS} {id : Nat} {ops : Array Oper} (x : Nat) (ρ : List (Nat × Nat)) (hm : P.follows .mixedOrders = true) {ox : Oper} {f : Operand} {asx : List Operand} (hox : ops[x]? = some ox) (hcl : callOf ox = some (f, asx)) (hgd : ox.guard = none)
    (hok : Ql0 ops x ρ = true) (G : AV → AH → Prop) (hG : ∀ tm v h', G v h' → Q (.panic v) ⟨tm, h'⟩)
    (H : AnyW P N ops ρ (fun s' => s'.h = s.h → FunW P (s'.ev f) (asx.map s'.ev) s'.h (fun o h' => ∃ v, o = .panic v ∧ G v h')) s) : Yy P N (.region id ops true) Q s := by
  intro F n base c a hF hst hr R hR
  refine wpIn_region_any hm ?_
  obtain ⟨tm, hp⟩ := s
  simp only [Ql0, Bool.and_eq_true] at hok
  obtain ⟨⟨⟨⟨⟨hp0, hp1⟩, hp2⟩, hp3⟩, hp4⟩, hp5⟩ := hok
  rw [List.all_eq_true] at hp4
  have hk : (ρ.all fun p => match ops[p.1]? with | some o => kindOk o p.2 | none => false) = true := by
    rw [List.all_eq_true]
    intro p hp
    have := hp4 p hp
    simp only [Bool.and_eq_true] at this
    revert this
    cases ops[p.1]? with
    | none => simp
    | some o => simp only [Bool.and_eq_true]; exact fun h => h.2.1
  obtain ⟨tr, rfl, hruns, hK⟩ := Qau H hk
  have hev : Ev c (c.to { c.w with drawn := c.w.drawn + 1 }) := Ev.idle hst (Ev.refl c) rfl rfl rfl rfl fun k => .inl rfl
  have hst' : St (c.to { c.w with drawn := c.w.drawn + 1 }) := hst.idle rfl fun k o hk => .inl hk
  have hr' : SR N (base, F) (c.to { c.w with drawn := c.w.drawn + 1 }) ⟨tm, hp⟩ a := ⟨hr.h, hr.size, Nat.le_trans hr.above hev.size, hr.defers.ev hev, RoundOk.ev hev hr.round, fun t => (hr.tm t).ev hst hev⟩
  have hops := Qbo hruns
  have hnone : ∀ j, (Array.replicate ops.size false).getD j false = false := fun j => by
    rw [Array.getD_eq_getD_getElem?, Array.getElem?_replicate]
    split <;> rfl
  have hmk : ∀ (k i : Nat), ((masks ops.toList []).getD k 0).testBit i = true → Anc ops i k := Qaq ops.toList [] (fun j o h => by simpa using h) (fun k i h => by simp at h)
  have hlow : ∀ t ∈ tr, t.c < 2 := fun t ht => by
    have := hp4 (t.i, t.c) (List.mem_map.2 ⟨t, ht, rfl⟩)
    simp only [Bool.and_eq_true, decide_eq_true_eq] at this
    exact this.1.1
  have hxt : ∀ t ∈ tr, t.i ≠ x := fun t ht => by
    have := hp4 (t.i, t.c) (List.mem_map.2 ⟨t, ht, rfl⟩)
    simp only [Bool.and_eq_true, Bool.not_eq_true', beq_eq_false_iff_ne] at this
    exact this.1.2
  have hS0 : hS (fun _ => true) tr hp = hp := Qld hlow
  rw [hS0] at hK
  obtain ⟨as', tys, hop, rfl⟩ : ∃ (as' : Array Operand) (tys : Array TypeId), ox.op = .call ⟨.value f, as', tys⟩ ∧ asx = as'.toList := by
    unfold callOf at hcl
    split at hcl
    · rename_i f' as' tys e
      simp only [QmY, Prod.mk.injEq] at hcl
      obtain ⟨rfl, rfl⟩ := hcl
      exact ⟨_, _, e, rfl⟩
    · cases hcl
  have hF0 := hK rfl
  refine QiF (base := (base, F)) hF hox hop hruns hlow hxt (Qcn hmk tr hp1 hops) ?_ ?_ ?_ ?_ hp2 ?_ (G := G) ?_ _ _ (c.to { c.w with drawn := c.w.drawn + 1 }) a (by simp) ?_ (hnone _) hst' ?_ ?_ ?_
  · have := Qbf hp3
    rw [List.map_map] at this
    exact this
  · intro t ht
    have := List.all_eq_true.1 hk (t.i, t.c) (List.mem_map.2 ⟨t, ht, rfl⟩)
    simpa [hops t ht] using this
  · intro t ht d hd hr
    have := hp4 (t.i, t.c) (List.mem_map.2 ⟨t, ht, rfl⟩)
    simp only [hops t ht, hox, hd, Bool.and_eq_true, Bool.or_eq_true, Bool.not_eq_true'] at this
    rcases this.2.2 with h | h
    · rw [List.contains_eq_mem, decide_eq_false_iff_not] at h
      exact absurd hr h
    · exact hmk _ _ h
  · intro i hi
    have := List.all_eq_true.1 hp5 i (List.mem_range.2 hi)
    simp only [Bool.or_eq_true, beq_iff_eq] at this
    rcases this with (h | h) | h
    · have h : i ∈ (tr.map fun t => (t.i, t.c)).map (·.1) := by simpa using h
      rw [List.map_map] at h
      obtain ⟨t, ht, rfl⟩ := List.mem_map.1 h
      exact .inl ⟨t, ht, rfl⟩
    · exact .inr (.inl h)
    · exact .inr (.inr (hmk _ _ h))
  · simp only [Qf, hgd]
  · rw [QbE _ hp [] f] at hF0
    have e2 : as'.toList.map (AS.ev ⟨tmS N (fun _ => true) tr tm, hp⟩) = as'.toList.map (AS.ev ⟨tmS N (fun _ => true) tr tm, []⟩) := List.map_congr_left fun y _ => QbE _ _ _ _
    rw [e2] at hF0
    exact hF0
  · intro j o ho hj
    simp only at hj
    rw [hnone] at hj; cases hj
  · have e1 : tmS N (fun i => (Array.replicate ops.size false).getD i false) tr tm = tm := funext fun x => Zf fun t _ h => by rw [hnone] at h; cases h
    rw [e1]; exact hr'
  · refine Nat.lt_of_le_of_lt List.countP_le_length ?_
    have := of_decide_eq_true hp0
    simp only [List.length_map] at this; omega
  · intro tm' v h' c' a' u hg h1 h2 h3 hu
    exact hR _ _ c' a' _ (hG tm' v h' hg) (Ev.trans hst hev h1) h2 h3 ⟨u, rfl, hu⟩
end Go.Proofs.YtehjodmnajgdgaaGreatDoor.Ab
set_option maxRecDepth 4000
namespace Go.Proofs.YtehjodmnajgdgaaGreatDoor.Ab
open Go.Proofs
theorem FunW.pan {P : Program} {fv : AV} {args : List AV} {h h' : AH} {r : AV} {Q : AOut → AH → Prop} (H : FunW P fv args h fun o h2 => o = .panic r ∧ h2 = h') (k : Q (.panic r) h') : FunW P fv args h Q := H.mono (by rintro _ _ ⟨rfl, rfl⟩; exact k)
theorem FunW.panE {P : Program} {α : Type} {fv : AV} {args : List AV} {h : AH} {h' : α → AH} {r : AV} {Q : AOut → AH → Prop} (H : FunW P fv args h fun o h2 => o = .panic r ∧ ∃ x, h2 = h' x) (k : ∀ x, Q (.panic r) (h' x)) : FunW P fv args h Q := H.mono (by rintro _ _ ⟨rfl, x, rfl⟩; exact k x)
def rd (l : List UInt8) : AB := .cells 100 1 [.v (.string (mkB l))]
theorem XX (l : List UInt8) : (mkB l).size = l.length := by show l.toArray.size = _; simp
theorem QbD (l : List UInt8) : (mkB l).data.toList = l := by simp [mkB]
theorem Qhz (s : ByteArray) : mkB s.data.toList = s := QbY (by rw [QbD])
theorem Qd3 (l : List UInt8) (a b : Nat) : (mkB l).extract a b = mkB ((l.take b).drop a) := by
  refine QbY ?_
  rw [QbD, Lib.extract_eq, QbD]
  simp [List.drop_take]
theorem QkY (c : UInt8) (r : List UInt8) : (mkB (c :: r)).extract 1 (mkB (c :: r)).size = mkB r := by
  rw [Qd3, XX, List.take_length]; rfl
theorem Qci (l : List UInt8) (i : Nat) (h : i < l.length) : byteAt (mkB l) i = ((l[i]).toNat : Nat) := by
  unfold byteAt; rw [QbD, List.getD_eq_getElem?_getD, List.getElem?_eq_getElem h]; rfl
theorem QeT (l : List UInt8) : ((mkB l).toList == ({ data := #[] } : ByteArray).toList) = decide (l = []) := by
  rw [Lib.toList_data, Lib.toList_data, QbD]
  cases l <;> rfl
theorem Qjh (l : List UInt8) : Lib.trimLeftB l 32 = QV l := by
  unfold Lib.trimLeftB
  induction l with
  | nil => rfl
  | cons c r ih =>
    rw [List.dropWhile_cons, QV]
    by_cases h : c.toNat = 32
    · have : c = 32 := UInt8.toNat_inj.1 (by simpa using h)
      subst this
      simpa using ih
    · have : (c == 32) = false := by
        rw [beq_eq_false_iff_ne]; rintro rfl; exact h rfl
      rw [this, if_neg h]; rfl
theorem QjA (l : List UInt8) : Pure Tryz.prog 115 [.v (.string (mkB l)), .v (.string { data := #[32] })] (.v (.string (mkB (QV l)))) := by
  have := Qe2 (mkB l)
  rw [QbD, Qjh] at this
  exact this
def Tabs (h : AH) : Prop := X9 h ∧ QhC h
theorem Tabs.app {h : AH} (H : Tabs h) (L : AH) : Tabs (h ++ L) := ⟨H.1.app L, let ⟨⟨a, b, c⟩, d, e, f⟩ := H.2; ⟨⟨a, b, c.app L⟩, d, e, f.app L⟩⟩
theorem HasG.chg {h : AH} {i g : Nat} {cs : Array Value} {x y : AB} (hi : i < h.length) (hx : ∀ a b c d, x ≠ .glob a b c d) (H : HasG (hs h i x) g cs) : HasG (hs h i y) g cs := by
  obtain ⟨k, ty, fr, e⟩ := H
  refine ⟨k, ty, fr, ?_⟩
  by_cases h1 : i = k
  · subst h1; rw [QjL hi] at e; injection e with e; exact absurd e (hx _ _ _ _)
  · rw [hs, List.getElem?_set_ne h1] at e ⊢; exact e
theorem Tabs.chg {h : AH} {i : Nat} {x y : AB} (hi : i < h.length) (hx : ∀ a b c d, x ≠ .glob a b c d) (H : Tabs (hs h i x)) : Tabs (hs h i y) := ⟨HasG.chg hi hx H.1, let ⟨⟨a, b, c⟩, d, e, f⟩ := H.2; ⟨⟨a, b, c.chg hi hx⟩, d, e, f.chg hi hx⟩⟩
theorem Tabs.rds {h : AH} {i : Nat} {l : List UInt8} (hi : i < h.length) (H : Tabs (hs h i (rd l))) (r : List UInt8) : Tabs (hs h i (rd r)) := H.chg hi (fun _ _ _ _ e => by cases e)
theorem Zr (n : Nat) (l : List UInt8) : (rd l).Below n := by
  intro a ha
  have : a = .v (.string (mkB l)) := by simpa [flat, QT] using ha
  subst this; exact .v _
end Go.Proofs.YtehjodmnajgdgaaGreatDoor.Ab
set_option maxRecDepth 4000
namespace Go.Proofs.YtehjodmnajgdgaaGreatDoor.Ab
open Go.Proofs
section
variable {h : AH} {i : Nat} (hi : i < h.length)
include hi
theorem Qll (l : List UInt8) : (hs h i (rd l))[i]? = some (.cells 100 1 [.v (.string (mkB l))]) := QjL hi _
theorem Qai (l : List UInt8) (L : AH) : (hs h i (rd l) ++ L)[i]? = some (.cells 100 1 [.v (.string (mkB l))]) := Qbd hi _ L
theorem Qcv (l r : List UInt8) (L : AH) : (hs h i (rd l) ++ L).set i (.cells 100 1 [.v (.string (mkB r))]) = hs h i (rd r) ++ L := Qcm hi (rd l) (rd r) L
end
theorem Qcq {h : AH} {i : Nat} (hi : i < h.length) (l : List UInt8) (L : AH) : Xf Tryz.prog 85 [.ptr i 0 0] (hs h i (rd l) ++ L) fun o h' => o = .ret (.tup []) ∧ h' = hs h i (rd (QV l)) ++ L := by
  have f2 := Qai hi
  have f3 := Qcv hi
  have c1 := QjA l
  refine Qe Tryz.func85 rfl Tryz.call85 Tryz.ntmps85 (congrArg Array.toList Tryz.results85) (by simp) ?_
  repeat (first | ((first | (with_reducible (first | refine Qr fun K E hK hE => ?_ | refine Qz c1 ?_))); simp -implicitDefEqProofs only [Qd, Qb, Qf, OpW, QQ, aop, undef, AS.ev, Qc, QL, QO, Qg, Qv, QmZ, AV.Qmr, QT, Q7, Qnc, Qnd, Qu, Qne, ↓reduceIte, Qm5, Qm6, Nat.reduceLT, Nat.reduceEqDiff, Qm4, Qnh, Qnq, Ql, QG, QH, QW, QM, QmS, Qnm, QmU, Qm7, Qnb, ti9, Yb, QC, f2, f3]) | ((with_reducible refine hK _ ?_); clear hK))
  simp -implicitDefEqProofs only [QmU, QmY, List.mapM_nil, Option.pure_def, QmU, QN, Qp, Qm2]
  exact .inr ⟨rfl, rfl⟩
def nx (l : List UInt8) : Nat := match QV l with
  | [] => 0
  | c :: _ => c.toNat
theorem Qce {h : AH} {i : Nat} (hi : i < h.length) (l : List UInt8) (L : AH) : Xf Tryz.prog 53 [.ptr i 0 0] (hs h i (rd l) ++ L) fun o h' => o = .ret (.v (.int .u8 (nx l : Nat))) ∧ h' = hs h i (rd (QV l)) ++ L := by
  have f2 := Qai hi
  have c1 := Qcq hi l L
  have hz := QeT (QV l)
  unfold nx
  cases hsk : QV l with
  | nil =>
    rw [hsk] at c1 hz
    rw [decide_eq_true rfl] at hz
    refine Qe Tryz.func53 rfl Tryz.call53 Tryz.ntmps53 (congrArg Array.toList Tryz.results53) (by simp) ?_
    repeat (first | ((first | (with_reducible (first | refine Qa fun K E hK hE => ?_ | refine FunW.ret (FunW.call c1) ?_))); simp -implicitDefEqProofs only [Qd, Qb, Qf, OpW, QQ, aop, undef, AS.ev, Qc, Qn, QO, Qg, Qv, QmZ, QT, ↓reduceIte, Nat.reduceLT, Nat.reduceEqDiff, Qnh, Ql, QG, QH, aBin, QmS, QmU, Qm7, Qnb, QY, ti9, Yb, QC, f2, hz]) | (with_reducible (first | refine Qi fun K hK => ?_ | refine Qm ?_ | refine QA ?_)) | ((with_reducible refine hK _ ?_); clear hK) | (refine Qk rfl ?_; simp only [↓reduceIte]))
    simp -implicitDefEqProofs only [Qg, ↓reduceIte, QmY, QnE, QN, Qp, Qw, Qm2]
    exact .inr ⟨rfl, rfl⟩
  | cons c r =>
    rw [hsk] at c1 hz
    rw [decide_eq_false (by simp)] at hz
    have hix := Zp Tryz.prog 9 (by kernel_rfl) (mkB (c :: r)) (by rw [XX]; simp)
    rw [Qci _ 0 (by simp)] at hix
    refine Qe Tryz.func53 rfl Tryz.call53 Tryz.ntmps53 (congrArg Array.toList Tryz.results53) (by simp) ?_
    repeat (first | ((first | (with_reducible (first | refine Qa fun K E hK hE => ?_ | refine FunW.ret (FunW.call c1) ?_))); simp -implicitDefEqProofs only [Qd, Qb, Qf, OpW, QQ, aop, undef, AS.ev, Qc, Qn, QO, Qg, Qv, QmZ, QT, ↓reduceIte, Nat.reduceLT, Nat.reduceEqDiff, Qnh, Ql, QG, QH, aBin, QmS, QmU, Qm7, Qnb, QY, ti9, Yb, QC, f2, hz, hix]) | (with_reducible (first | refine Qi fun K hK => ?_ | refine Qm ?_ | refine QD ?_ | refine Qj ?_)) | ((with_reducible refine hK _ ?_); clear hK) | (refine Qk rfl ?_; simp only [↓reduceIte, QmW]))
    simp -implicitDefEqProofs only [Qg, ↓reduceIte, QmY, QN, Qp, Qw, Qm2]
    exact .inr ⟨rfl, rfl⟩
end Go.Proofs.YtehjodmnajgdgaaGreatDoor.Ab
set_option maxRecDepth 4000
namespace Go.Proofs.YtehjodmnajgdgaaGreatDoor.Ab
open Go.Proofs
theorem QkP (c : UInt8) (r : List UInt8) : pv Tryz.prog (Instr.sliceAt 9 (.string (mkB (c :: r))) (some (.int .i64 1)) none none) = some (.string (mkB r)) := by
  have := Qc9 Tryz.prog 9 (by kernel_rfl) (mkB (c :: r)) 1 (by rw [XX]; simp)
  rw [QkY] at this
  exact this
theorem Qdg {h : AH} {i : Nat} (hi : i < h.length) {l r : List UInt8} {c : UInt8} (hs0 : QV l = c :: r) {k : Int} (hk : ((c.toNat : Nat) : Int) = k) (L : AH) : Xf Tryz.prog 120 [.ptr i 0 0, .v (.int .u8 k)] (hs h i (rd l) ++ L) fun o h' => o = .ret (.b true) ∧ h' = hs h i (rd r) ++ L := by
  have f2 := Qai hi
  have f3 := Qcv hi
  have c1 := Qce hi l L
  have e1 : nx l = c.toNat := by rw [nx, hs0]
  rw [e1, hs0, hk] at c1
  have e2 : (k != k) = false := by simp
  have hp := QkP c r
  refine Qe Tryz.func120 rfl Tryz.call120 Tryz.ntmps120 (congrArg Array.toList Tryz.results120) (by simp) ?_
  repeat (first | ((first | (with_reducible (first | refine Qa fun K E hK hE => ?_ | refine FunW.ret (FunW.call c1) ?_))); simp -implicitDefEqProofs only [Qd, Qb, Qf, OpW, QQ, aop, undef, AS.ev, Qc, QL, Qn, Qt, Qg, Qv, QmZ, Qni, AV.Qmr, QT, Q7, Qnc, Qnd, Qu, Qne, ↓reduceIte, Qm5, Qm6, Nat.reduceLT, Nat.reduceEqDiff, Qm4, Qnh, Qnq, Ql, QG, QH, QW, QM, aBin, YF, QmS, Qnm, QmU, Qnx, Qm7, Qnb, Q2, QnD, ti9, ei9, Yb, QC, f2, f3, hp]) | (with_reducible (first | refine Qi fun K hK => ?_ | refine Qm ?_ | refine QD ?_ | refine Qj ?_)) | ((with_reducible refine hK _ ?_); clear hK) | (refine Qk rfl ?_; simp only [↓reduceIte, QmW]))
  simp -implicitDefEqProofs only [Qg, ↓reduceIte, QmY, QN, Qp, Qw, Qm2]
  exact .inr ⟨rfl, rfl⟩
theorem Qa2 {h : AH} {i : Nat} (hi : i < h.length) {l : List UInt8} {k : Int} (hn : (nx l : Int) ≠ k) (L : AH) : Xf Tryz.prog 120 [.ptr i 0 0, .v (.int .u8 k)] (hs h i (rd l) ++ L) fun o h' => o = .ret (.b false) ∧ h' = hs h i (rd (QV l)) ++ L := by
  have f2 := Qai hi
  have c1 := Qce hi l L
  have e2 : (((nx l : Nat) : Int) != k) = true := by simpa using hn
  refine Qe Tryz.func120 rfl Tryz.call120 Tryz.ntmps120 (congrArg Array.toList Tryz.results120) (by simp) ?_
  repeat (first | ((first | (with_reducible (first | refine Qa fun K E hK hE => ?_ | refine FunW.ret (FunW.call c1) ?_))); simp -implicitDefEqProofs only [Qd, Qb, Qf, OpW, QQ, aop, undef, AS.ev, Qc, Qt, Qg, Qv, QmZ, Qni, ↓reduceIte, Nat.reduceLT, Nat.reduceEqDiff, aBin, QmU, Qm7, Qnb, Q2, e2]) | (with_reducible (first | refine Qi fun K hK => ?_ | refine Qm ?_ | refine QA ?_)) | ((with_reducible refine hK _ ?_); clear hK) | (refine Qk rfl ?_; simp only [↓reduceIte]))
  simp -implicitDefEqProofs only [Qg, ↓reduceIte, QmY, QN, Qp, Qw, Qm2]
  exact .inr ⟨rfl, rfl⟩
theorem Qlj {p : UInt8 → Bool} : ∀ {l : List UInt8} {k : Nat} (hk : k < l.length), k < (l.takeWhile p).length → p l[k] = true
  | [], k, hk, _ => by simp at hk
  | c :: l, k, hk, h => by
    rw [List.takeWhile_cons] at h
    cases hp : p c with
    | false => rw [hp] at h; simp at h
    | true =>
      rw [hp] at h
      cases k with
      | zero => exact hp
      | succ k =>
        simp only [List.getElem_cons_succ]
        exact Qlj _ (by simpa using h)
theorem Qi8 {p : UInt8 → Bool} : ∀ {l : List UInt8} (hk : (l.takeWhile p).length < l.length), p l[(l.takeWhile p).length] = false
  | [], hk => by simp at hk
  | c :: l, hk => by
    cases hp : p c with
    | false =>
      have e : ((c :: l).takeWhile p) = [] := by rw [List.takeWhile_cons, hp]; rfl
      simp only [e, Qm6, List.getElem_cons_zero, hp]
    | true =>
      have e : ((c :: l).takeWhile p) = c :: l.takeWhile p := by rw [List.takeWhile_cons, hp]; rfl
      simp only [e, Qm5, List.getElem_cons_succ]
      exact Qi8 (by rw [e] at hk; simpa using hk)
theorem QlY (p : UInt8 → Bool) (l : List UInt8) : (l.takeWhile p).length ≤ l.length := (List.takeWhile_sublist p).length_le
theorem QgN (p : UInt8 → Bool) (l : List UInt8) : l.take (l.takeWhile p).length = l.takeWhile p := by
  conv => lhs; rhs; rw [← List.takeWhile_append_dropWhile (p := p) (l := l)]
  exact List.take_left
theorem Qly (p : UInt8 → Bool) (l : List UInt8) : l.drop (l.takeWhile p).length = l.dropWhile p := by
  conv => lhs; rhs; rw [← List.takeWhile_append_dropWhile (p := p) (l := l)]
  exact List.drop_left
theorem Qje {h : AH} {i : Nat} (hi : i < h.length) {g : FuncId} {p : UInt8 → Bool} (hp : ∀ c : UInt8, Pure Tryz.prog g [.v (.int .u8 (c.toNat : Nat))] (.b (p c))) (l : List UInt8) (hl : l.length ≤ 1000000) (L : AH) :
    Xf Tryz.prog 90 [.ptr i 0 0, .fn (.func g) [] []] (hs h i (rd l) ++ L) fun o h' => o = .ret (.v (.string (mkB (l.takeWhile p)))) ∧ h' = hs h i (rd (l.dropWhile p)) ++ L := by
  have f2 := Qai hi
  have f3 := Qcv hi
  have hsl := fun b => Yf Tryz.prog 9 3 (by kernel_rfl) b
  have hwl := QlY p l
  have p1 : pv Tryz.prog (Instr.sliceAt 9 (.string (mkB l)) none (some (.int .i64 ((l.takeWhile p).length : Nat))) none) = some (.string (mkB (l.takeWhile p))) := by
    have := Qbs Tryz.prog 9 (by kernel_rfl) (mkB l) none (some (.i64, ((l.takeWhile p).length : Nat))) 0 (l.takeWhile p).length ⟨by omega, by rw [XX]; omega, by omega⟩ rfl
    rw [Qd3, QgN] at this
    exact this
  have p2 : pv Tryz.prog (Instr.sliceAt 9 (.string (mkB l)) (some (.int .i64 ((l.takeWhile p).length : Nat))) none none) = some (.string (mkB (l.dropWhile p))) := by
    have := Qc9 Tryz.prog 9 (by kernel_rfl) (mkB l) (l.takeWhile p).length (by rw [XX]; omega)
    rw [Qd3, XX, List.take_length, Qly] at this
    exact this
  refine Qe Tryz.func90 rfl Tryz.call90 Tryz.ntmps90 (congrArg Array.toList Tryz.results90) (by simp) ?_
  repeat (first | (((with_reducible refine Qa fun K E hK hE => ?_)); simp -implicitDefEqProofs only [Qd, Qb, Qf, OpW, aop, AS.ev, Qc, Qn, QO, Nat.reduceLT]) | (with_reducible (first | refine Qi fun K hK => ?_ | refine Qq ?_)) | ((with_reducible refine hK _ ?_); clear hK))
  obtain ⟨I, hI⟩ : ∃ I : Nat → AS → Prop, I = fun m' s => ∃ k : Nat, m' = l.length - k ∧ k ≤ (l.takeWhile p).length ∧ s.tm 0 = .ptr i 0 0 ∧ s.tm 1 = .fn (.func g) [] [] ∧ s.tm 5 = .i k ∧ s.h = hs h i (rd l) ++ L := ⟨_, rfl⟩; refine XJ I ?_ (m := l.length) ?_
  · intro m' s hs; rw [hI] at hs; obtain ⟨tm, hp⟩ := s; dsimp only at hs; obtain ⟨k, rfl, hk, t0, t1, t5, rfl⟩ := hs
    by_cases hlt : k < l.length
    · have hix := YU Tryz.prog 9 (by kernel_rfl) (mkB l) k (by rw [XX]; exact hlt)
      rw [Qci _ k hlt] at hix
      have z1 : (k : Int) < l.length := by omega
      have c1 := hp l[k]
      by_cases hw : k < (l.takeWhile p).length
      · rw [Qlj hlt hw] at c1
        repeat (first | ((first | (with_reducible (first | refine Qa fun K E hK hE => ?_ | refine Qr fun K E hK hE => ?_ | refine Qz c1 ?_))); simp -implicitDefEqProofs only [Qd, Qb, Qf, OpW, QQ, aop, AS.ev, Qc, Qn, Qg, QT, ↓reduceIte, Nat.reduceLT, Nat.reduceEqDiff, Qnh, Ql, QG, QH, aBin, aLen, QmS, QmT, QmU, QmX, QmV, Qm7, Qnb, Q3, XK, goInt, Qno, Qm0, ti9, Yb, QC, t0, t1, t5, f2, hsl, XX, z1, hix]) | (with_reducible (first | refine Qi fun K hK => ?_ | refine Qq ?_ | refine QD ?_ | refine Qj ?_ | refine QF ?_)) | ((with_reducible refine hK _ ?_); clear hK) | (refine Qk rfl ?_; simp only [↓reduceIte]))
        refine Yo.mk (m' := l.length - (k + 1)) (by omega) ?_
        rw [hI]
        refine ⟨k + 1, rfl, by omega, t0, t1, ?_, rfl⟩
        simp only [upd, ↓reduceIte]
        rw [Zi (by omega)]
      · obtain rfl : k = (l.takeWhile p).length := by omega
        rw [Qi8 hlt] at c1
        repeat (first | ((first | (with_reducible (first | refine Qa fun K E hK hE => ?_ | refine Qz c1 ?_))); simp -implicitDefEqProofs only [Qd, Qb, Qf, OpW, QQ, aop, undef, AS.ev, Qc, QL, Qg, AV.Qmr, QT, Q7, Qnc, Qnd, Qu, Qne, ↓reduceIte, Qm5, Qm6, Nat.reduceLT, Nat.reduceEqDiff, Qm4, Qnh, Qnq, Ql, QG, QH, QW, QM, aBin, YF, aLen, QmS, QmT, Qnm, QmU, Qnx, QmX, QmV, Qm7, Qnb, Q3, goInt, Qno, Qm0, ti9, ei9, Yb, QC, t0, t1, t5, f2, f3, hsl, XX, z1, hix, p1, p2]) | (with_reducible (first | refine Qi fun K hK => ?_ | refine Qm ?_ | refine Xb ?_ | refine Qj ?_ | refine Q5 ?_ | refine Q4 ?_)) | ((with_reducible refine hK _ ?_); clear hK) | (clear hK; (with_reducible refine hK _ ?_); clear hK) | (refine Qk rfl ?_; simp only [↓reduceIte, QmW]))
        simp -implicitDefEqProofs only [Qg, ↓reduceIte, QmY, QN, Qp, Qw, Qm2]
        exact .inr ⟨rfl, rfl⟩
    · have z1 : ¬ (k : Int) < l.length := by omega
      obtain rfl : k = (l.takeWhile p).length := by omega
      repeat (first | (((with_reducible refine Qa fun K E hK hE => ?_)); simp -implicitDefEqProofs only [Qd, Qb, Qf, OpW, aop, undef, AS.ev, Qc, QL, Qt, Qg, AV.Qmr, QT, Q7, Qnc, Qnd, Qu, Qne, ↓reduceIte, Qm5, Qm6, Nat.reduceLT, Nat.reduceEqDiff, Qm4, Qnh, Qnq, Ql, QG, QH, QW, QM, aBin, YF, aLen, QmS, QmT, Qnm, QmU, Qnx, QmX, QmV, Q3, goInt, Qnp, QmW, beq_true, ti9, ei9, Yb, QC, t0, t5, f2, f3, hsl, XX, z1, p1, p2]) | (with_reducible (first | refine Qi fun K hK => ?_ | refine Qm ?_ | refine Xb ?_ | refine Qj ?_ | refine Q5 ?_ | refine Q4 ?_)) | ((with_reducible refine hK _ ?_); clear hK) | (clear hK; (with_reducible refine hK _ ?_); clear hK) | (refine Qk rfl ?_; simp only [↓reduceIte, QmW]))
      simp -implicitDefEqProofs only [Qg, ↓reduceIte, QmY, QN, Qp, Qw, Qm2]
      exact .inr ⟨rfl, rfl⟩
  · rw [hI]
    exact ⟨0, rfl, Nat.zero_le _, rfl, rfl, rfl, rfl⟩
end Go.Proofs.YtehjodmnajgdgaaGreatDoor.Ab
set_option maxRecDepth 4000
namespace Go.Proofs.YtehjodmnajgdgaaGreatDoor.Ab
open Go.Proofs
def ps (s : ByteArray) (r : List UInt8) : Nat := s.size - r.length
def rr (s : ByteArray) (r : List UInt8) (e : Int) : AB := .cells 80 3 [.agg [.v (.string s), .i (ps s r : Nat), .i e]]
abbrev Suf (s : ByteArray) (r : List UInt8) : Prop := r <:+ s.data.toList
theorem Suf.len {s : ByteArray} {r : List UInt8} (h : Suf s r) : r.length ≤ s.size := by
  have := h.length_le
  simpa using this
theorem Suf.tail {s : ByteArray} {c : UInt8} {r : List UInt8} (h : Suf s (c :: r)) : Suf s r := (List.suffix_cons c r).trans h
theorem Suf.drop {s : ByteArray} {r : List UInt8} (h : Suf s r) (p : UInt8 → Bool) : Suf s (r.dropWhile p) := (List.dropWhile_suffix p).trans h
theorem QeD : ∀ r : List UInt8, QV r <:+ r
  | [] => List.suffix_refl _
  | c :: r => by
    rw [QV]
    split
    · exact (QeD r).trans (List.suffix_cons c r)
    · exact List.suffix_refl _
theorem Suf.skip {s : ByteArray} {r : List UInt8} (h : Suf s r) : Suf s (QV r) := (QeD r).trans h
theorem Qcc {s : ByteArray} {c : UInt8} {r : List UInt8} (h : Suf s (c :: r)) : ps s (c :: r) < s.size := by
  have := h.len
  simp only [Qm5] at this
  simp only [ps, Qm5]; omega
theorem QlG {s : ByteArray} {c : UInt8} {r : List UInt8} (h : Suf s (c :: r)) : ps s (c :: r) + 1 = ps s r := by
  have := h.len
  simp only [Qm5] at this
  simp only [ps, Qm5]; omega
theorem Y4 {s : ByteArray} {c : UInt8} {r : List UInt8} (h : Suf s (c :: r)) (hb : s.size ≤ 1000000) : IntKind.i64.wrap (((ps s (c :: r) : Nat) : Int) + 1) = ((ps s r : Nat) : Int) := by
  have h1 := Qcc h
  have h2 := QlG h
  have : ((ps s (c :: r) : Nat) : Int) + 1 = ((ps s r : Nat) : Int) := by omega
  rw [this, YP (by omega)]
theorem Qep (s : ByteArray) : ps s [] = s.size := rfl
theorem QaT {s : ByteArray} {c : UInt8} {r : List UInt8} (h : Suf s (c :: r)) : byteAt s (ps s (c :: r)) = ((c.toNat : Nat) : Int) := by
  obtain ⟨p, hp⟩ := h
  have hl : s.size = p.length + (r.length + 1) := by
    have : s.data.toList.length = (p ++ c :: r).length := by rw [hp]
    simpa using this
  have e : ps s (c :: r) = p.length := by simp only [ps, Qm5]; omega
  rw [byteAt, e, ← hp, List.getD_eq_getElem?_getD, List.getElem?_append_right (Nat.le_refl _), Nat.sub_self]
  rfl
theorem QlH {s : ByteArray} {r : List UInt8} (h : Suf s r) (p : UInt8 → Bool) : s.extract (ps s r) (ps s (r.dropWhile p)) = mkB (r.takeWhile p) := by
  obtain ⟨q, hq⟩ := h
  have hl : s.size = q.length + r.length := by
    have : s.data.toList.length = (q ++ r).length := by rw [hq]
    simpa using this
  have hr : r.length = (r.takeWhile p).length + (r.dropWhile p).length := by
    rw [← List.length_append, List.takeWhile_append_dropWhile]
  have e1 : ps s r = q.length := by simp only [ps]; omega
  have e2 : ps s (r.dropWhile p) = q.length + (r.takeWhile p).length := by simp only [ps]; omega
  refine QbY ?_
  rw [Lib.extract_eq, QbD, e1, e2, ← hq]
  have : (q ++ r).take (q.length + (r.takeWhile p).length) = q ++ r.takeWhile p := by
    rw [List.take_append, List.take_of_length_le (by omega), Nat.add_sub_cancel_left, QgN]
  simp only [List.take_drop, List.drop_append, List.take_append] at *
  first
  | (rw [this]; simp)
  | simp [QgN]
section
variable {h : AH} {j : Nat} (hj : j < h.length)
include hj
theorem Yh (s : ByteArray) (r : List UInt8) (e : Int) (L : AH) : (hs h j (rr s r e) ++ L)[j]? = some (.cells 80 3 [.agg [.v (.string s), .i (ps s r : Nat), .i e]]) := Qbd hj _ L
theorem Y0 (s : ByteArray) (r : List UInt8) (e : Int) (r2 : List UInt8) (e2 : Int) (L : AH) : (hs h j (rr s r e) ++ L).set j (.cells 80 3 [.agg [.v (.string s), .i (ps s r2 : Nat), .i e2]]) = hs h j (rr s r2 e2) ++ L := Qcm hj (rr s r e) (rr s r2 e2) L
end
theorem ZM (n : Nat) (s : ByteArray) (r : List UInt8) (e : Int) : (rr s r e).Below n := by
  intro a ha
  simp only [flat, List.flatMap_cons, List.flatMap_nil, Qnl, AV.cells, List.mem_cons, List.not_mem_nil, or_false] at ha
  rcases ha with rfl | rfl | rfl <;> exact .v _
theorem XM {s : ByteArray} (hb : s.size ≤ 1000000) {r : List UInt8} (hr : Suf s r) {h : AH} {j : Nat} (hj : j < h.length) (q : List UInt8) (e : Int) (L : AH) :
    Xf Tryz.prog 122 [.ptr j 0 0, .i (ps s r : Nat)] (hs h j (rr s q e) ++ L) fun o h' => o = .ret (.b (headD r)) ∧ h' = hs h j (rr s q e) ++ L := by
  have f2 := Yh hj s q e
  have hsl := fun b => Yf Tryz.prog 9 3 (by kernel_rfl) b
  cases r with
  | nil =>
    have z1 : ¬ (((ps s [] : Nat)) : Int) < s.size := by rw [Qep]; omega
    refine Qe Tryz.func122 rfl Tryz.call122 Tryz.ntmps122 (congrArg Array.toList Tryz.results122) (by simp) ?_
    iterate 2 (try (first | (((with_reducible refine Qa fun K E hK hE => ?_)); simp -implicitDefEqProofs only [Qd, Qb, Qf, OpW, aop, AS.ev, Qc, Qt, Nat.reduceLT]) | ((with_reducible refine hK _ ?_); clear hK)))
    (with_reducible refine Qa fun K E hK hE => ?_)
    (try simp only [Qnt]); refine Qy 7 (fun K1 hK1 => ?_); simp -implicitDefEqProofs only [Qd, Qb, Qf, OpW, aop, undef, AS.ev, Qc, Qg, Qv, QmZ, Qni, Qo, ↓reduceIte, Nat.reduceLT, Nat.reduceEqDiff, Qnh, Ql, QG, QH, aBin, aLen, QmS, QmU, Qm3, Qna, Q3, goInt, Qnp, ti9, Xm, QC, f2, hsl, z1]; refine hK1 _ ?_; clear hK1
    (try simp only [Qm1, Qm9]); refine Qy 7 (fun K1 hK1 => ?_); simp -implicitDefEqProofs only [Qd, Qb, Qf, OpW, aop, undef, AS.ev, Qc, Qg, ↓reduceIte, Nat.reduceLT, Nat.reduceEqDiff, QmS, QmT, QmX, QmV, Qm3, Qna, beq_true]; refine hK1 _ ?_; clear hK1
    (try simp only [Qm1, Qm9]); refine Qy 7 (fun K1 hK1 => ?_); simp -implicitDefEqProofs only [Qd, Qb, Qf, OpW, aop, undef, AS.ev, Qc, Qt, Qg, ↓reduceIte, Nat.reduceLT, Nat.reduceEqDiff, QmS, QmT, QmX, QmV, Qm3, Qna, QmW, beq_true]; refine hK1 _ ?_; clear hK1
    (try simp only [Qm1, Qm9])
    simp -implicitDefEqProofs only [Qd, Qb, Qf, OpW, aop, undef, AS.ev, Qc, Qt, Qg, ↓reduceIte, Nat.reduceLT, Nat.reduceEqDiff, QmS, QmT, QmX, QmV, QmW, beq_true]
    repeat (first | (with_reducible refine Qm ?_) | ((with_reducible refine hK _ ?_); clear hK))
    simp -implicitDefEqProofs only [Qg, ↓reduceIte, QmY, QN, Qp, Qw, Qm2]
    exact .inr ⟨rfl, rfl⟩
  | cons c r =>
    have z1 : (((ps s (c :: r) : Nat)) : Int) < s.size := by have := Qcc hr; omega
    have hix := YU Tryz.prog 9 (by kernel_rfl) s (ps s (c :: r)) (Qcc hr)
    rw [QaT hr] at hix
    by_cases h1 : (48 : Int) ≤ (c.toNat : Nat)
    · have h1' : ((c.toNat : Nat) : Int) ≥ 48 := h1
      by_cases h2 : ((c.toNat : Nat) : Int) ≤ 57
      · refine Qe Tryz.func122 rfl Tryz.call122 Tryz.ntmps122 (congrArg Array.toList Tryz.results122) (by simp) ?_
        iterate 2 (try (first | (((with_reducible refine Qa fun K E hK hE => ?_)); simp -implicitDefEqProofs only [Qd, Qb, Qf, OpW, aop, AS.ev, Qc, Qt, Nat.reduceLT]) | ((with_reducible refine hK _ ?_); clear hK)))
        (with_reducible refine Qa fun K E hK hE => ?_)
        (try simp only [Qnt]); refine Qy 7 (fun K1 hK1 => ?_); simp -implicitDefEqProofs only [Qd, Qb, Qf, OpW, aop, undef, AS.ev, Qc, Qg, Qv, QmZ, Qni, Qo, ↓reduceIte, Nat.reduceLT, Nat.reduceEqDiff, Qnh, Ql, QG, QH, aBin, aLen, QmS, QmU, Qm3, Qna, Q3, goInt, Qno, ti9, Xm, QC, f2, hsl, z1]; refine hK1 _ ?_; clear hK1
        (try simp only [Qm1, Qm9]); refine Qy 7 (fun K1 hK1 => ?_); simp -implicitDefEqProofs only [Qd, Qb, Qf, OpW, aop, undef, AS.ev, Qc, Qg, Qv, QmZ, Qni, Qo, ↓reduceIte, Nat.reduceLT, Nat.reduceEqDiff, Qnh, Ql, QG, QH, QmS, QmT, QmU, QmX, QmV, Qm3, Qna, Qm0, ti9, Xm, QC, f2, hix]; refine hK1 _ ?_; clear hK1
        (try simp only [Qm1, Qm9]); refine Qy 7 (fun K1 hK1 => ?_); simp -implicitDefEqProofs only [Qd, Qb, Qf, OpW, aop, undef, AS.ev, Qc, Qn, Qg, Qv, QmZ, Qo, ↓reduceIte, Nat.reduceLT, Nat.reduceEqDiff, Qnh, Ql, QG, QH, aBin, QmS, QmT, QmU, QmX, QmV, Qm3, Qna, Xi, Qno, Qm0, ti9, Xm, QC, f2, h1]; refine hK1 _ ?_; clear hK1
        (try simp only [Qm1, Qm9])
        simp -implicitDefEqProofs only [Qd, Qb, Qf, OpW, aop, undef, AS.ev, Qc, Qn, Qg, Qv, QmZ, Qni, ↓reduceIte, Nat.reduceLT, Nat.reduceEqDiff, aBin, QmS, QmT, QmU, QmX, QmV, Q9, Qno, Qm0, hix, h2]
        repeat (first | (with_reducible refine Qm ?_) | ((with_reducible refine hK _ ?_); clear hK))
        simp -implicitDefEqProofs only [Qg, ↓reduceIte, QmY, QN, Qp, Qw, Qm2]
        exact .inr ⟨by rw [headD, isD, decide_eq_true (by omega)], rfl⟩
      · refine Qe Tryz.func122 rfl Tryz.call122 Tryz.ntmps122 (congrArg Array.toList Tryz.results122) (by simp) ?_
        iterate 2 (try (first | (((with_reducible refine Qa fun K E hK hE => ?_)); simp -implicitDefEqProofs only [Qd, Qb, Qf, OpW, aop, AS.ev, Qc, Qt, Nat.reduceLT]) | ((with_reducible refine hK _ ?_); clear hK)))
        (with_reducible refine Qa fun K E hK hE => ?_)
        (try simp only [Qnt]); refine Qy 7 (fun K1 hK1 => ?_); simp -implicitDefEqProofs only [Qd, Qb, Qf, OpW, aop, undef, AS.ev, Qc, Qg, Qv, QmZ, Qni, Qo, ↓reduceIte, Nat.reduceLT, Nat.reduceEqDiff, Qnh, Ql, QG, QH, aBin, aLen, QmS, QmU, Qm3, Qna, Q3, goInt, Qno, ti9, Xm, QC, f2, hsl, z1]; refine hK1 _ ?_; clear hK1
        (try simp only [Qm1, Qm9]); refine Qy 7 (fun K1 hK1 => ?_); simp -implicitDefEqProofs only [Qd, Qb, Qf, OpW, aop, undef, AS.ev, Qc, Qg, Qv, QmZ, Qni, Qo, ↓reduceIte, Nat.reduceLT, Nat.reduceEqDiff, Qnh, Ql, QG, QH, QmS, QmT, QmU, QmX, QmV, Qm3, Qna, Qm0, ti9, Xm, QC, f2, hix]; refine hK1 _ ?_; clear hK1
        (try simp only [Qm1, Qm9]); refine Qy 7 (fun K1 hK1 => ?_); simp -implicitDefEqProofs only [Qd, Qb, Qf, OpW, aop, undef, AS.ev, Qc, Qn, Qg, Qv, QmZ, Qo, ↓reduceIte, Nat.reduceLT, Nat.reduceEqDiff, Qnh, Ql, QG, QH, aBin, QmS, QmT, QmU, QmX, QmV, Qm3, Qna, Xi, Qno, Qm0, ti9, Xm, QC, f2, h1]; refine hK1 _ ?_; clear hK1
        (try simp only [Qm1, Qm9])
        simp -implicitDefEqProofs only [Qd, Qb, Qf, OpW, aop, undef, AS.ev, Qc, Qn, Qg, Qv, QmZ, Qni, ↓reduceIte, Nat.reduceLT, Nat.reduceEqDiff, aBin, QmS, QmT, QmU, QmX, QmV, Q9, Qnp, Qm0, hix, h2]
        repeat (first | (with_reducible refine Qm ?_) | ((with_reducible refine hK _ ?_); clear hK))
        simp -implicitDefEqProofs only [Qg, ↓reduceIte, QmY, QN, Qp, Qw, Qm2]
        exact .inr ⟨by rw [headD, isD, decide_eq_false (by omega)], rfl⟩
    · have h1' : ¬ ((c.toNat : Nat) : Int) ≥ 48 := h1
      refine Qe Tryz.func122 rfl Tryz.call122 Tryz.ntmps122 (congrArg Array.toList Tryz.results122) (by simp) ?_
      iterate 2 (try (first | (((with_reducible refine Qa fun K E hK hE => ?_)); simp -implicitDefEqProofs only [Qd, Qb, Qf, OpW, aop, AS.ev, Qc, Qt, Nat.reduceLT]) | ((with_reducible refine hK _ ?_); clear hK)))
      (with_reducible refine Qa fun K E hK hE => ?_)
      (try simp only [Qnt]); refine Qy 7 (fun K1 hK1 => ?_); simp -implicitDefEqProofs only [Qd, Qb, Qf, OpW, aop, undef, AS.ev, Qc, Qg, Qv, QmZ, Qni, Qo, ↓reduceIte, Nat.reduceLT, Nat.reduceEqDiff, Qnh, Ql, QG, QH, aBin, aLen, QmS, QmU, Qm3, Qna, Q3, goInt, Qno, ti9, Xm, QC, f2, hsl, z1]; refine hK1 _ ?_; clear hK1
      (try simp only [Qm1, Qm9]); refine Qy 7 (fun K1 hK1 => ?_); simp -implicitDefEqProofs only [Qd, Qb, Qf, OpW, aop, undef, AS.ev, Qc, Qg, Qv, QmZ, Qni, Qo, ↓reduceIte, Nat.reduceLT, Nat.reduceEqDiff, Qnh, Ql, QG, QH, QmS, QmT, QmU, QmX, QmV, Qm3, Qna, Qm0, ti9, Xm, QC, f2, hix]; refine hK1 _ ?_; clear hK1
      (try simp only [Qm1, Qm9]); refine Qy 7 (fun K1 hK1 => ?_); simp -implicitDefEqProofs only [Qd, Qb, Qf, OpW, aop, undef, AS.ev, Qc, Qn, Qg, ↓reduceIte, Nat.reduceLT, Nat.reduceEqDiff, aBin, QmS, QmT, QmU, QmX, QmV, Qm3, Qna, Xi, Qnp, Qm0, beq_true, h1]; refine hK1 _ ?_; clear hK1
      (try simp only [Qm1, Qm9])
      simp -implicitDefEqProofs only [Qd, Qb, Qf, OpW, aop, undef, AS.ev, Qc, Qt, Qg, ↓reduceIte, Nat.reduceLT, Nat.reduceEqDiff, QmS, QmT, QmX, QmV, QmW, beq_true]
      repeat (first | (with_reducible refine Qm ?_) | ((with_reducible refine hK _ ?_); clear hK))
      simp -implicitDefEqProofs only [Qg, ↓reduceIte, QmY, QN, Qp, Qw, Qm2]
      exact .inr ⟨by rw [headD, isD, decide_eq_false (by omega)], rfl⟩
end Go.Proofs.YtehjodmnajgdgaaGreatDoor.Ab
set_option maxRecDepth 4000
namespace Go.Proofs.YtehjodmnajgdgaaGreatDoor.Ab
open Go.Proofs
def Qbv : List UInt8 → Bool
  | c :: _ => isL c
  | [] => false
theorem YO {s : ByteArray} (hb : s.size ≤ 1000000) {r : List UInt8} (hr : Suf s r) {h : AH} {j : Nat} (hj : j < h.length) (q : List UInt8) (e : Int) (L : AH) :
    Xf Tryz.prog 121 [.ptr j 0 0, .i (ps s r : Nat)] (hs h j (rr s q e) ++ L) fun o h' => o = .ret (.b (Qbv r)) ∧ h' = hs h j (rr s q e) ++ L := by
  have f2 := Yh hj s q e
  have hsl := fun b => Yf Tryz.prog 9 3 (by kernel_rfl) b
  cases r with
  | nil =>
    have z1 : ¬ (((ps s [] : Nat)) : Int) < s.size := by rw [Qep]; omega
    refine Qe Tryz.func121 rfl Tryz.call121 Tryz.ntmps121 (congrArg Array.toList Tryz.results121) (by simp) ?_
    iterate 2 (try (first | (((with_reducible refine Qa fun K E hK hE => ?_)); simp -implicitDefEqProofs only [Qd, Qb, Qf, OpW, aop, AS.ev, Qc, Qt, Nat.reduceLT]) | ((with_reducible refine hK _ ?_); clear hK)))
    (with_reducible refine Qa fun K E hK hE => ?_)
    (try simp only [Qnt]); refine Qy 8 (fun K1 hK1 => ?_); simp -implicitDefEqProofs only [Qd, Qb, Qf, OpW, aop, undef, AS.ev, Qc, Qg, Qv, QmZ, Qni, Qo, ↓reduceIte, Nat.reduceLT, Nat.reduceEqDiff, Qnh, Ql, QG, QH, aBin, aLen, QmS, QmU, Qm3, Qna, Q3, goInt, Qnp, ti9, Xm, QC, f2, hsl, z1]; refine hK1 _ ?_; clear hK1
    (try simp only [Qm1, Qm9]); refine Qy 8 (fun K1 hK1 => ?_); simp -implicitDefEqProofs only [Qd, Qb, Qf, undef, Qc, Qg, ↓reduceIte, Nat.reduceLT, Nat.reduceEqDiff, QmS, QmT, QmX, QmV, Qm3, Qna, beq_true]; refine hK1 _ ?_; clear hK1
    (try simp only [Qm1, Qm9]); refine Qy 8 (fun K1 hK1 => ?_); simp -implicitDefEqProofs only [Qd, Qb, Qf, undef, Qc, Qg, ↓reduceIte, Nat.reduceLT, Nat.reduceEqDiff, QmS, QmT, QmX, QmV, Qm3, Qna, beq_true]; refine hK1 _ ?_; clear hK1
    (try simp only [Qm1, Qm9]); refine Qy 10 (fun K1 hK1 => ?_); simp -implicitDefEqProofs only [Qd, Qb, Qf, undef, Qc, Qg, ↓reduceIte, Nat.reduceLT, Nat.reduceEqDiff, QmS, QmT, QmX, QmV, Qm3, Qna, beq_true]; refine hK1 _ ?_; clear hK1
    (try simp only [Qm1, Qm9]); refine Qy 10 (fun K1 hK1 => ?_); simp -implicitDefEqProofs only [Qd, Qb, Qf, undef, Qc, Qg, ↓reduceIte, Nat.reduceLT, Nat.reduceEqDiff, QmS, QmT, QmX, QmV, Qm3, Qna, beq_true]; refine hK1 _ ?_; clear hK1
    (try simp only [Qm1, Qm9])
    simp -implicitDefEqProofs only [Qd, Qb, Qf, OpW, aop, undef, AS.ev, Qc, Qt, Qg, ↓reduceIte, Nat.reduceLT, Nat.reduceEqDiff, QmS, QmT, QmX, QmV, QmW, beq_true]
    repeat (first | (with_reducible refine Qm ?_) | ((with_reducible refine hK _ ?_); clear hK))
    simp -implicitDefEqProofs only [Qg, ↓reduceIte, QmY, QN, Qp, Qw, Qm2]
    exact .inr ⟨rfl, rfl⟩
  | cons c r =>
    have z1 : (((ps s (c :: r) : Nat)) : Int) < s.size := by have := Qcc hr; omega
    have hix := YU Tryz.prog 9 (by kernel_rfl) s (ps s (c :: r)) (Qcc hr)
    rw [QaT hr] at hix
    by_cases h1 : ((c.toNat : Nat) : Int) ≥ 97
    · by_cases h2 : ((c.toNat : Nat) : Int) ≤ 122
      · refine Qe Tryz.func121 rfl Tryz.call121 Tryz.ntmps121 (congrArg Array.toList Tryz.results121) (by simp) ?_
        iterate 2 (try (first | (((with_reducible refine Qa fun K E hK hE => ?_)); simp -implicitDefEqProofs only [Qd, Qb, Qf, OpW, aop, AS.ev, Qc, Qt, Nat.reduceLT]) | ((with_reducible refine hK _ ?_); clear hK)))
        (with_reducible refine Qa fun K E hK hE => ?_)
        (try simp only [Qnt]); refine Qy 8 (fun K1 hK1 => ?_); simp -implicitDefEqProofs only [Qd, Qb, Qf, OpW, aop, undef, AS.ev, Qc, Qg, Qv, QmZ, Qni, Qo, ↓reduceIte, Nat.reduceLT, Nat.reduceEqDiff, Qnh, Ql, QG, QH, aBin, aLen, QmS, QmU, Qm3, Qna, Q3, goInt, Qno, ti9, Xm, QC, f2, hsl, z1]; refine hK1 _ ?_; clear hK1
        (try simp only [Qm1, Qm9]); refine Qy 8 (fun K1 hK1 => ?_); simp -implicitDefEqProofs only [Qd, Qb, Qf, OpW, aop, undef, AS.ev, Qc, Qn, Qg, Qv, QmZ, Qni, Qo, ↓reduceIte, Nat.reduceLT, Nat.reduceEqDiff, Qnh, Ql, QG, QH, aBin, QmS, QmT, QmU, QmX, QmV, Qm3, Qna, Xi, Qno, Qm0, ti9, Xm, QC, f2, hix, h1]; refine hK1 _ ?_; clear hK1
        (try simp only [Qm1, Qm9]); refine Qy 8 (fun K1 hK1 => ?_); simp -implicitDefEqProofs only [Qd, Qb, Qf, OpW, aop, undef, AS.ev, Qc, Qn, Qg, Qv, QmZ, Qni, Qo, ↓reduceIte, Nat.reduceLT, Nat.reduceEqDiff, Qnh, Ql, QG, QH, aBin, QmS, QmT, QmU, QmX, QmV, Qm3, Qna, Q9, Qno, Qm0, ti9, Xm, QC, f2, hix, h2]; refine hK1 _ ?_; clear hK1
        (try simp only [Qm1, Qm9]); refine Qy 10 (fun K1 hK1 => ?_); simp -implicitDefEqProofs only [Qd, Qb, Qf, OpW, aop, undef, AS.ev, Qc, Qg, Qnf, ↓reduceIte, Nat.reduceLT, Nat.reduceEqDiff, QmS, QmT, QmX, QmV, Qm3, Qna, Qm0, beq_false]; refine hK1 _ ?_; clear hK1
        (try simp only [Qm1, Qm9]); refine Qy 10 (fun K1 hK1 => ?_); simp -implicitDefEqProofs only [Qd, Qb, Qf, OpW, aop, undef, AS.ev, Qc, Qt, Qg, Qnf, ↓reduceIte, Nat.reduceLT, Nat.reduceEqDiff, QmS, QmT, QmX, QmV, Qm3, Qna, Qm0, beq_false]; refine hK1 _ ?_; clear hK1
        (try simp only [Qm1, Qm9])
        simp -implicitDefEqProofs only [Qd, Qb, Qf, OpW, aop, undef, AS.ev, Qc, Qt, Qg, Qnf, ↓reduceIte, Nat.reduceLT, Nat.reduceEqDiff, QmS, QmT, QmX, QmV, Qm0, beq_false]
        repeat (first | (with_reducible refine Qm ?_) | ((with_reducible refine hK _ ?_); clear hK))
        simp -implicitDefEqProofs only [Qg, ↓reduceIte, QmY, QN, Qp, Qw, Qm2]
        exact .inr ⟨by rw [Qbv, isL, decide_eq_true (by omega)], rfl⟩
      · have h3 : ((c.toNat : Nat) : Int) ≥ 65 := by omega
        have h4 : ¬ ((c.toNat : Nat) : Int) ≤ 90 := by omega
        have h5 : (((c.toNat : Nat) : Int) == 95) = false := by simp; omega
        refine Qe Tryz.func121 rfl Tryz.call121 Tryz.ntmps121 (congrArg Array.toList Tryz.results121) (by simp) ?_
        iterate 2 (try (first | (((with_reducible refine Qa fun K E hK hE => ?_)); simp -implicitDefEqProofs only [Qd, Qb, Qf, OpW, aop, AS.ev, Qc, Qt, Nat.reduceLT]) | ((with_reducible refine hK _ ?_); clear hK)))
        (with_reducible refine Qa fun K E hK hE => ?_)
        (try simp only [Qnt]); refine Qy 8 (fun K1 hK1 => ?_); simp -implicitDefEqProofs only [Qd, Qb, Qf, OpW, aop, undef, AS.ev, Qc, Qg, Qv, QmZ, Qni, Qo, ↓reduceIte, Nat.reduceLT, Nat.reduceEqDiff, Qnh, Ql, QG, QH, aBin, aLen, QmS, QmU, Qm3, Qna, Q3, goInt, Qno, ti9, Xm, QC, f2, hsl, z1]; refine hK1 _ ?_; clear hK1
        (try simp only [Qm1, Qm9]); refine Qy 8 (fun K1 hK1 => ?_); simp -implicitDefEqProofs only [Qd, Qb, Qf, OpW, aop, undef, AS.ev, Qc, Qn, Qg, Qv, QmZ, Qni, Qo, ↓reduceIte, Nat.reduceLT, Nat.reduceEqDiff, Qnh, Ql, QG, QH, aBin, QmS, QmT, QmU, QmX, QmV, Qm3, Qna, Xi, Qno, Qm0, ti9, Xm, QC, f2, hix, h1]; refine hK1 _ ?_; clear hK1
        (try simp only [Qm1, Qm9]); refine Qy 8 (fun K1 hK1 => ?_); simp -implicitDefEqProofs only [Qd, Qb, Qf, OpW, aop, undef, AS.ev, Qc, Qn, Qg, Qv, QmZ, Qni, Qo, ↓reduceIte, Nat.reduceLT, Nat.reduceEqDiff, Qnh, Ql, QG, QH, aBin, QmS, QmT, QmU, QmX, QmV, Qm3, Qna, Q9, Qnp, Qm0, ti9, Xm, QC, f2, hix, h2]; refine hK1 _ ?_; clear hK1
        (try simp only [Qm1, Qm9]); refine Qy 10 (fun K1 hK1 => ?_); simp -implicitDefEqProofs only [Qd, Qb, Qf, OpW, aop, undef, AS.ev, Qc, Qn, Qg, Qv, QmZ, Qni, Qo, ↓reduceIte, Nat.reduceLT, Nat.reduceEqDiff, Qnh, Ql, QG, QH, aBin, QmS, QmT, QmU, QmX, QmV, Qm3, Qna, Xi, Qno, Qm0, ti9, Xm, QC, f2, hix, h3]; refine hK1 _ ?_; clear hK1
        (try simp only [Qm1, Qm9]); refine Qy 10 (fun K1 hK1 => ?_); simp -implicitDefEqProofs only [Qd, Qb, Qf, OpW, aop, undef, AS.ev, Qc, Qn, Qg, Qv, QmZ, Qni, Qo, ↓reduceIte, Nat.reduceLT, Nat.reduceEqDiff, Qnh, Ql, QG, QH, aBin, QmS, QmT, QmU, QmX, QmV, Qm3, Qna, Q9, Qnp, Qm0, QmW, ti9, Xm, QC, f2, hix, h4]; refine hK1 _ ?_; clear hK1
        (try simp only [Qm1, Qm9])
        simp -implicitDefEqProofs only [Qd, Qb, Qf, OpW, aop, undef, AS.ev, Qc, Qn, Qg, Qv, QmZ, Qni, Qo, ↓reduceIte, Nat.reduceLT, Nat.reduceEqDiff, Qnh, Ql, QG, QH, aBin, QmS, QmT, QmU, QmX, QmV, QR, Qm0, QmW, ti9, Xm, QC, f2, hix, h5]
        repeat (first | (with_reducible refine Qm ?_) | ((with_reducible refine hK _ ?_); clear hK))
        simp -implicitDefEqProofs only [Qg, ↓reduceIte, QmY, QN, Qp, Qw, Qm2]
        exact .inr ⟨by rw [Qbv, isL, decide_eq_false (by omega)], rfl⟩
    · by_cases h3 : ((c.toNat : Nat) : Int) ≥ 65
      · by_cases h4 : ((c.toNat : Nat) : Int) ≤ 90
        · refine Qe Tryz.func121 rfl Tryz.call121 Tryz.ntmps121 (congrArg Array.toList Tryz.results121) (by simp) ?_
          iterate 2 (try (first | (((with_reducible refine Qa fun K E hK hE => ?_)); simp -implicitDefEqProofs only [Qd, Qb, Qf, OpW, aop, AS.ev, Qc, Qt, Nat.reduceLT]) | ((with_reducible refine hK _ ?_); clear hK)))
          (with_reducible refine Qa fun K E hK hE => ?_)
          (try simp only [Qnt]); refine Qy 8 (fun K1 hK1 => ?_); simp -implicitDefEqProofs only [Qd, Qb, Qf, OpW, aop, undef, AS.ev, Qc, Qg, Qv, QmZ, Qni, Qo, ↓reduceIte, Nat.reduceLT, Nat.reduceEqDiff, Qnh, Ql, QG, QH, aBin, aLen, QmS, QmU, Qm3, Qna, Q3, goInt, Qno, ti9, Xm, QC, f2, hsl, z1]; refine hK1 _ ?_; clear hK1
          (try simp only [Qm1, Qm9]); refine Qy 8 (fun K1 hK1 => ?_); simp -implicitDefEqProofs only [Qd, Qb, Qf, OpW, aop, undef, AS.ev, Qc, Qn, Qg, Qv, QmZ, Qni, Qo, ↓reduceIte, Nat.reduceLT, Nat.reduceEqDiff, Qnh, Ql, QG, QH, aBin, QmS, QmT, QmU, QmX, QmV, Qm3, Qna, Xi, Qnp, Qm0, ti9, Xm, QC, f2, hix, h1]; refine hK1 _ ?_; clear hK1
          (try simp only [Qm1, Qm9]); refine Qy 8 (fun K1 hK1 => ?_); simp -implicitDefEqProofs only [Qd, Qb, Qf, OpW, aop, undef, AS.ev, Qc, Qt, Qg, ↓reduceIte, Nat.reduceLT, Nat.reduceEqDiff, QmS, QmT, QmX, QmV, Qm3, Qna, Qm0, QmW, beq_true]; refine hK1 _ ?_; clear hK1
          (try simp only [Qm1, Qm9]); refine Qy 10 (fun K1 hK1 => ?_); simp -implicitDefEqProofs only [Qd, Qb, Qf, OpW, aop, undef, AS.ev, Qc, Qn, Qg, Qv, QmZ, Qni, Qo, ↓reduceIte, Nat.reduceLT, Nat.reduceEqDiff, Qnh, Ql, QG, QH, aBin, QmS, QmT, QmU, QmX, QmV, Qm3, Qna, Xi, Qno, Qm0, ti9, Xm, QC, f2, hix, h3]; refine hK1 _ ?_; clear hK1
          (try simp only [Qm1, Qm9]); refine Qy 10 (fun K1 hK1 => ?_); simp -implicitDefEqProofs only [Qd, Qb, Qf, OpW, aop, undef, AS.ev, Qc, Qn, Qg, Qv, QmZ, Qni, Qo, Qnf, ↓reduceIte, Nat.reduceLT, Nat.reduceEqDiff, Qnh, Ql, QG, QH, aBin, QmS, QmT, QmU, QmX, QmV, Qm3, Qna, Q9, Qno, Qm0, QmW, beq_false, ti9, Xm, QC, f2, hix, h4]; refine hK1 _ ?_; clear hK1
          (try simp only [Qm1, Qm9])
          simp -implicitDefEqProofs only [Qd, Qb, Qf, OpW, aop, undef, AS.ev, Qc, Qt, Qg, Qnf, ↓reduceIte, Nat.reduceLT, Nat.reduceEqDiff, QmS, QmT, QmX, QmV, Qm0, beq_false]
          repeat (first | (with_reducible refine Qm ?_) | ((with_reducible refine hK _ ?_); clear hK))
          simp -implicitDefEqProofs only [Qg, ↓reduceIte, QmY, QN, Qp, Qw, Qm2]
          exact .inr ⟨by rw [Qbv, isL, decide_eq_true (by omega)], rfl⟩
        · cases h5 : (((c.toNat : Nat) : Int) == 95) with
          | true =>
            have h6 : ((c.toNat : Nat) : Int) = 95 := by simpa using h5
            refine Qe Tryz.func121 rfl Tryz.call121 Tryz.ntmps121 (congrArg Array.toList Tryz.results121) (by simp) ?_
            iterate 2 (try (first | (((with_reducible refine Qa fun K E hK hE => ?_)); simp -implicitDefEqProofs only [Qd, Qb, Qf, OpW, aop, AS.ev, Qc, Qt, Nat.reduceLT]) | ((with_reducible refine hK _ ?_); clear hK)))
            (with_reducible refine Qa fun K E hK hE => ?_)
            (try simp only [Qnt]); refine Qy 8 (fun K1 hK1 => ?_); simp -implicitDefEqProofs only [Qd, Qb, Qf, OpW, aop, undef, AS.ev, Qc, Qg, Qv, QmZ, Qni, Qo, ↓reduceIte, Nat.reduceLT, Nat.reduceEqDiff, Qnh, Ql, QG, QH, aBin, aLen, QmS, QmU, Qm3, Qna, Q3, goInt, Qno, ti9, Xm, QC, f2, hsl, z1]; refine hK1 _ ?_; clear hK1
            (try simp only [Qm1, Qm9]); refine Qy 8 (fun K1 hK1 => ?_); simp -implicitDefEqProofs only [Qd, Qb, Qf, OpW, aop, undef, AS.ev, Qc, Qn, Qg, Qv, QmZ, Qni, Qo, ↓reduceIte, Nat.reduceLT, Nat.reduceEqDiff, Qnh, Ql, QG, QH, aBin, QmS, QmT, QmU, QmX, QmV, Qm3, Qna, Xi, Qnp, Qm0, ti9, Xm, QC, f2, hix, h1]; refine hK1 _ ?_; clear hK1
            (try simp only [Qm1, Qm9]); refine Qy 8 (fun K1 hK1 => ?_); simp -implicitDefEqProofs only [Qd, Qb, Qf, OpW, aop, undef, AS.ev, Qc, Qt, Qg, ↓reduceIte, Nat.reduceLT, Nat.reduceEqDiff, QmS, QmT, QmX, QmV, Qm3, Qna, Qm0, QmW, beq_true]; refine hK1 _ ?_; clear hK1
            (try simp only [Qm1, Qm9]); refine Qy 10 (fun K1 hK1 => ?_); simp -implicitDefEqProofs only [Qd, Qb, Qf, OpW, aop, undef, AS.ev, Qc, Qn, Qg, Qv, QmZ, Qni, Qo, ↓reduceIte, Nat.reduceLT, Nat.reduceEqDiff, Qnh, Ql, QG, QH, aBin, QmS, QmT, QmU, QmX, QmV, Qm3, Qna, Xi, Qno, Qm0, ti9, Xm, QC, f2, hix, h3]; refine hK1 _ ?_; clear hK1
            (try simp only [Qm1, Qm9]); refine Qy 10 (fun K1 hK1 => ?_); simp -implicitDefEqProofs only [Qd, Qb, Qf, OpW, aop, undef, AS.ev, Qc, Qn, Qg, Qv, QmZ, Qni, Qo, ↓reduceIte, Nat.reduceLT, Nat.reduceEqDiff, Qnh, Ql, QG, QH, aBin, QmS, QmT, QmU, QmX, QmV, Qm3, Qna, Q9, Qnp, Qm0, QmW, ti9, Xm, QC, f2, hix, h4]; refine hK1 _ ?_; clear hK1
            (try simp only [Qm1, Qm9])
            simp -implicitDefEqProofs only [Qd, Qb, Qf, OpW, aop, undef, AS.ev, Qc, Qn, Qg, Qv, QmZ, Qni, Qo, ↓reduceIte, Nat.reduceLT, Nat.reduceEqDiff, Qnh, Ql, QG, QH, aBin, QmS, QmT, QmU, QmX, QmV, QR, Qm0, QmW, ti9, Xm, QC, f2, hix, h5]
            repeat (first | (with_reducible refine Qm ?_) | ((with_reducible refine hK _ ?_); clear hK))
            simp -implicitDefEqProofs only [Qg, ↓reduceIte, QmY, QN, Qp, Qw, Qm2]
            exact .inr ⟨by rw [Qbv, isL, decide_eq_true (by omega)], rfl⟩
          | false =>
            have h6 : ¬ ((c.toNat : Nat) : Int) = 95 := by simpa using h5
            refine Qe Tryz.func121 rfl Tryz.call121 Tryz.ntmps121 (congrArg Array.toList Tryz.results121) (by simp) ?_
            iterate 2 (try (first | (((with_reducible refine Qa fun K E hK hE => ?_)); simp -implicitDefEqProofs only [Qd, Qb, Qf, OpW, aop, AS.ev, Qc, Qt, Nat.reduceLT]) | ((with_reducible refine hK _ ?_); clear hK)))
            (with_reducible refine Qa fun K E hK hE => ?_)
            (try simp only [Qnt]); refine Qy 8 (fun K1 hK1 => ?_); simp -implicitDefEqProofs only [Qd, Qb, Qf, OpW, aop, undef, AS.ev, Qc, Qg, Qv, QmZ, Qni, Qo, ↓reduceIte, Nat.reduceLT, Nat.reduceEqDiff, Qnh, Ql, QG, QH, aBin, aLen, QmS, QmU, Qm3, Qna, Q3, goInt, Qno, ti9, Xm, QC, f2, hsl, z1]; refine hK1 _ ?_; clear hK1
            (try simp only [Qm1, Qm9]); refine Qy 8 (fun K1 hK1 => ?_); simp -implicitDefEqProofs only [Qd, Qb, Qf, OpW, aop, undef, AS.ev, Qc, Qn, Qg, Qv, QmZ, Qni, Qo, ↓reduceIte, Nat.reduceLT, Nat.reduceEqDiff, Qnh, Ql, QG, QH, aBin, QmS, QmT, QmU, QmX, QmV, Qm3, Qna, Xi, Qnp, Qm0, ti9, Xm, QC, f2, hix, h1]; refine hK1 _ ?_; clear hK1
            (try simp only [Qm1, Qm9]); refine Qy 8 (fun K1 hK1 => ?_); simp -implicitDefEqProofs only [Qd, Qb, Qf, OpW, aop, undef, AS.ev, Qc, Qt, Qg, ↓reduceIte, Nat.reduceLT, Nat.reduceEqDiff, QmS, QmT, QmX, QmV, Qm3, Qna, Qm0, QmW, beq_true]; refine hK1 _ ?_; clear hK1
            (try simp only [Qm1, Qm9]); refine Qy 10 (fun K1 hK1 => ?_); simp -implicitDefEqProofs only [Qd, Qb, Qf, OpW, aop, undef, AS.ev, Qc, Qn, Qg, Qv, QmZ, Qni, Qo, ↓reduceIte, Nat.reduceLT, Nat.reduceEqDiff, Qnh, Ql, QG, QH, aBin, QmS, QmT, QmU, QmX, QmV, Qm3, Qna, Xi, Qno, Qm0, ti9, Xm, QC, f2, hix, h3]; refine hK1 _ ?_; clear hK1
            (try simp only [Qm1, Qm9]); refine Qy 10 (fun K1 hK1 => ?_); simp -implicitDefEqProofs only [Qd, Qb, Qf, OpW, aop, undef, AS.ev, Qc, Qn, Qg, Qv, QmZ, Qni, Qo, ↓reduceIte, Nat.reduceLT, Nat.reduceEqDiff, Qnh, Ql, QG, QH, aBin, QmS, QmT, QmU, QmX, QmV, Qm3, Qna, Q9, Qnp, Qm0, QmW, ti9, Xm, QC, f2, hix, h4]; refine hK1 _ ?_; clear hK1
            (try simp only [Qm1, Qm9])
            simp -implicitDefEqProofs only [Qd, Qb, Qf, OpW, aop, undef, AS.ev, Qc, Qn, Qg, Qv, QmZ, Qni, Qo, ↓reduceIte, Nat.reduceLT, Nat.reduceEqDiff, Qnh, Ql, QG, QH, aBin, QmS, QmT, QmU, QmX, QmV, QR, Qm0, QmW, ti9, Xm, QC, f2, hix, h5]
            repeat (first | (with_reducible refine Qm ?_) | ((with_reducible refine hK _ ?_); clear hK))
            simp -implicitDefEqProofs only [Qg, ↓reduceIte, QmY, QN, Qp, Qw, Qm2]
            exact .inr ⟨by rw [Qbv, isL, decide_eq_false (by omega)], rfl⟩
      · have h5 : (((c.toNat : Nat) : Int) == 95) = false := by simp; omega
        refine Qe Tryz.func121 rfl Tryz.call121 Tryz.ntmps121 (congrArg Array.toList Tryz.results121) (by simp) ?_
        iterate 2 (try (first | (((with_reducible refine Qa fun K E hK hE => ?_)); simp -implicitDefEqProofs only [Qd, Qb, Qf, OpW, aop, AS.ev, Qc, Qt, Nat.reduceLT]) | ((with_reducible refine hK _ ?_); clear hK)))
        (with_reducible refine Qa fun K E hK hE => ?_)
        (try simp only [Qnt]); refine Qy 8 (fun K1 hK1 => ?_); simp -implicitDefEqProofs only [Qd, Qb, Qf, OpW, aop, undef, AS.ev, Qc, Qg, Qv, QmZ, Qni, Qo, ↓reduceIte, Nat.reduceLT, Nat.reduceEqDiff, Qnh, Ql, QG, QH, aBin, aLen, QmS, QmU, Qm3, Qna, Q3, goInt, Qno, ti9, Xm, QC, f2, hsl, z1]; refine hK1 _ ?_; clear hK1
        (try simp only [Qm1, Qm9]); refine Qy 8 (fun K1 hK1 => ?_); simp -implicitDefEqProofs only [Qd, Qb, Qf, OpW, aop, undef, AS.ev, Qc, Qn, Qg, Qv, QmZ, Qni, Qo, ↓reduceIte, Nat.reduceLT, Nat.reduceEqDiff, Qnh, Ql, QG, QH, aBin, QmS, QmT, QmU, QmX, QmV, Qm3, Qna, Xi, Qnp, Qm0, ti9, Xm, QC, f2, hix, h1]; refine hK1 _ ?_; clear hK1
        (try simp only [Qm1, Qm9]); refine Qy 8 (fun K1 hK1 => ?_); simp -implicitDefEqProofs only [Qd, Qb, Qf, OpW, aop, undef, AS.ev, Qc, Qt, Qg, ↓reduceIte, Nat.reduceLT, Nat.reduceEqDiff, QmS, QmT, QmX, QmV, Qm3, Qna, Qm0, QmW, beq_true]; refine hK1 _ ?_; clear hK1
        (try simp only [Qm1, Qm9]); refine Qy 10 (fun K1 hK1 => ?_); simp -implicitDefEqProofs only [Qd, Qb, Qf, OpW, aop, undef, AS.ev, Qc, Qn, Qg, Qv, QmZ, Qni, Qo, ↓reduceIte, Nat.reduceLT, Nat.reduceEqDiff, Qnh, Ql, QG, QH, aBin, QmS, QmT, QmU, QmX, QmV, Qm3, Qna, Xi, Qnp, Qm0, beq_true, ti9, Xm, QC, f2, hix, h3]; refine hK1 _ ?_; clear hK1
        (try simp only [Qm1, Qm9]); refine Qy 10 (fun K1 hK1 => ?_); simp -implicitDefEqProofs only [Qd, Qb, Qf, OpW, aop, undef, AS.ev, Qc, Qt, Qg, Qv, QmZ, ↓reduceIte, Nat.reduceLT, Nat.reduceEqDiff, QmS, QmT, QmX, QmV, Qm3, Qna, Qm0, QmW, beq_true]; refine hK1 _ ?_; clear hK1
        (try simp only [Qm1, Qm9])
        simp -implicitDefEqProofs only [Qd, Qb, Qf, OpW, aop, undef, AS.ev, Qc, Qn, Qg, Qv, QmZ, Qni, Qo, ↓reduceIte, Nat.reduceLT, Nat.reduceEqDiff, Qnh, Ql, QG, QH, aBin, QmS, QmT, QmU, QmX, QmV, QR, Qm0, QmW, ti9, Xm, QC, f2, hix, h5]
        repeat (first | (with_reducible refine Qm ?_) | ((with_reducible refine hK _ ?_); clear hK))
        simp -implicitDefEqProofs only [Qg, ↓reduceIte, QmY, QN, Qp, Qw, Qm2]
        exact .inr ⟨by rw [Qbv, isL, decide_eq_false (by omega)], rfl⟩
theorem Qla (H : AH) (m : Nat) : Frz H m (.agg [.i 0, .i 0, .v (.string { data := #[] }), .v (.slice none 0 0)]) (T.mk 0 0 eB []).av :=
  .agg rfl (Xd (.keep (.v _)) (Xd (.keep (.v _)) (Xd (.keep (.v _)) (XS (.nil 4)))))
theorem Y3 {s : ByteArray} (q : List UInt8) (e : Int) (j : Nat) : Chg Tryz.prog 89 [.ptr j 0 0, .i e] j (rr s q 0) (T.mk 0 0 eB []).av (rr s q e) := by
  intro h hj
  have f1 := fun x => Xw h j x
  have f2 := Yh hj s q
  have f3 := fun e r2 e2 => Y0 hj s q e r2 e2
  have f4 := fun x L => Yg (h := h) (i := j) x L
  have f6 := fun x y L => X5 (h := h) (i := j) x y L
  have z0 : ((0 : Int) == 0) = true := rfl
  refine Qe Tryz.func89 rfl Tryz.call89 Tryz.ntmps89 (congrArg Array.toList Tryz.results89) (by simp) ?_
  repeat (first | ((first | (with_reducible (first | refine Qa fun K E hK hE => ?_ | refine Qr fun K E hK hE => ?_))); simp -implicitDefEqProofs only [Qd, Qb, Qf, OpW, aop, undef, AS.ev, Qc, QL, Qn, Qg, Qv, QmZ, Qni, AV.Qmr, Qo, QT, QB, Q7, Qnc, Qnd, Qs, Qu, QE, Qne, ↓reduceIte, Qm5, Qm6, Nat.reduceAdd, Nat.reduceLT, Nat.reduceLeDiff, Nat.reduceEqDiff, Qm4, Qnq, Ql, QG, QH, QW, QM, aBin, Xn, XE, QmS, QmT, Qnm, QmU, Qnb, Qnk, Qnj, Qnl, Qm3, Qna, Qm1, Qm9, QR, Qm0, QmW, ti24, zi24, sp24, ti38, XI, QC, f1, f2, f3, f4, f6]) | (with_reducible (first | refine Qi fun K hK => ?_ | refine Qm ?_ | refine Qj ?_)) | ((with_reducible refine hK _ ?_); clear hK) | (refine Qk rfl ?_; simp only [↓reduceIte]))
  simp -implicitDefEqProofs only [Qg, Qo, QB, ↓reduceIte, Qm5, Qm6, Nat.reduceAdd, Nat.reduceEqDiff, Qm4, Qnq, QG, QH, QmS, QmY, ti24, QG, QH, f4, QN, Qp, Qw, Qm2]
  exact Xa (ZM _ _ _ _) (Qla _ _) ⟨rfl, rfl⟩
theorem Qdq {s : ByteArray} (q : List UInt8) {e : Int} (he : e ≠ 0) (e2 : Int) (j : Nat) : Chg Tryz.prog 89 [.ptr j 0 0, .i e2] j (rr s q e) (T.mk 0 0 eB []).av (rr s q e) := by
  intro h hj
  have f1 := fun x => Xw h j x
  have f2 := Yh hj s q
  have f4 := fun x L => Yg (h := h) (i := j) x L
  have f6 := fun x y L => X5 (h := h) (i := j) x y L
  have z0 : (e == 0) = false := by simpa using he
  refine Qe Tryz.func89 rfl Tryz.call89 Tryz.ntmps89 (congrArg Array.toList Tryz.results89) (by simp) ?_
  repeat (first | (((with_reducible refine Qa fun K E hK hE => ?_)); simp -implicitDefEqProofs only [Qd, Qb, Qf, OpW, aop, undef, AS.ev, Qc, QL, Qn, Qg, Qv, QmZ, AV.Qmr, Qo, QB, Qnc, Qnd, Qs, Qu, QE, Qne, ↓reduceIte, Qm5, Qm6, Nat.reduceAdd, Nat.reduceLT, Nat.reduceEqDiff, Qm4, Qnq, Ql, QG, QH, QW, QM, aBin, Xn, XE, QmS, QmT, Qnm, QmU, Qnb, QR, ti24, zi24, sp24, ti38, XI, QC, f1, f2, f4, f6, z0]) | (with_reducible (first | refine Qi fun K hK => ?_ | refine Qm ?_ | refine QD ?_ | refine Qj ?_)) | ((with_reducible refine hK _ ?_); clear hK) | (refine Qk rfl ?_; simp only [↓reduceIte, QmW]))
  simp -implicitDefEqProofs only [Qg, Qo, QB, ↓reduceIte, Qm5, Qm6, Nat.reduceAdd, Nat.reduceEqDiff, Qm4, Qnq, QG, QH, QmS, QmY, ti24, QG, QH, f4, QN, Qp, Qw, Qm2]
  exact Xa (ZM _ _ _ _) (Qla _ _) ⟨rfl, rfl⟩
end Go.Proofs.YtehjodmnajgdgaaGreatDoor.Ab
set_option maxRecDepth 4000
namespace Go.Proofs.YtehjodmnajgdgaaGreatDoor.Ab
open Go.Proofs
theorem Qjv {c : UInt8} (h : c.toNat = 32) : (((c.toNat : Nat) : Int) == 32) = true := by simp [h]
theorem Yq {sb : ByteArray} (hb : sb.size ≤ 1000000) {r : List UInt8} (hr : Suf sb r) {h : AH} {j : Nat} (hj : j < h.length) (L : AH) :
    Xf Tryz.prog 56 [.ptr j 0 0] (hs h j (rr sb r 0) ++ L) fun o h' => o = .ret (.v (.int .u8 (nx r : Nat))) ∧ h' = hs h j (rr sb (QV r) 0) ++ L := by
  have hsl := fun b => Yf Tryz.prog 9 3 (by kernel_rfl) b
  refine Qe Tryz.func56 rfl Tryz.call56 Tryz.ntmps56 (congrArg Array.toList Tryz.results56) (by simp) ?_
  iterate 4 (try (first | (((with_reducible refine Qa fun K E hK hE => ?_)); simp -implicitDefEqProofs only [Qd, Qb, Qf, OpW, aop, AS.ev, Qc, Qn, Nat.reduceLT]) | (with_reducible (first | refine Qi fun K hK => ?_ | refine Qq ?_)) | ((with_reducible refine hK _ ?_); clear hK)))
  obtain ⟨I, hI⟩ : ∃ I : Nat → AS → Prop, I = fun m' s => ∃ q : List UInt8, m' = q.length ∧ Suf sb q ∧ QV q = QV r ∧ s.tm 0 = .ptr j 0 0 ∧ s.h = hs h j (rr sb q 0) ++ L := ⟨_, rfl⟩; refine XJ I ?_ (m := r.length) ?_
  · intro m' s hs; rw [hI] at hs; obtain ⟨tm, hp⟩ := s; dsimp only at hs; obtain ⟨q, rfl, hq, hsk, t0, rfl⟩ := hs
    have f2 := Yh hj sb q 0 L
    have z0 : ((0 : Int) != 0) = false := rfl
    cases q with
    | nil =>
      have z1 : ¬ (((ps sb [] : Nat)) : Int) < sb.size := by rw [Qep]; omega
      have z2 : (((ps sb [] : Nat)) : Int) ≥ sb.size := by rw [Qep]; omega
      have e1 : QV r = [] := by rw [← hsk]; rfl
      repeat (first | ((first | (with_reducible refine Qa fun K E hK hE => ?_) | (refine QP (id := 1) [(0, 0), (1, 0), (2, 0), (3, 0), (4, 0), (5, 0), (6, 0), (7, 0), (8, 0), (9, 0), (10, 0), (11, 0), (12, 0), (13, 0), (14, 0), (15, 0), (16, 0), (17, 0), (18, 0), (19, 0), (20, 0), (21, 0)] mixed (by kernel_rfl) fun K hK => ?_) | (refine QP (id := 3) [(0, 0), (1, 0), (2, 0), (3, 0), (4, 0), (5, 0), (6, 0), (7, 0), (8, 0), (9, 0), (10, 0), (11, 0), (12, 0), (13, 0), (14, 0), (15, 0), (16, 0)] mixed (by kernel_rfl) fun K hK => ?_)); simp -implicitDefEqProofs only [Q1, QX, Q8, Qd, Qb, Qf, OpW, aop, undef, AS.ev, Qc, Qn, Qt, Qg, Qo, ↓reduceIte, Nat.reduceLT, Nat.reduceEqDiff, Qm4, Qnh, Ql, QG, QH, aBin, aLen, QmS, QmT, QmU, QmX, QmV, Q2, Q3, Xi, goInt, Qno, Qnp, Qm0, QnD, QmW, beq_true, ti3, ti9, ti38, Xm, Xl, XI, QC, t0, f2, hsl, z1, z2]) | (with_reducible (first | refine Qi fun K hK => ?_ | refine Qm ?_ | refine Xb ?_ | refine Qj ?_ | refine QA ?_ | refine Q5 ?_ | refine Q4 ?_)) | ((with_reducible refine hK _ ?_); clear hK) | (clear hK; (with_reducible refine hK _ ?_); clear hK) | (refine Qk rfl ?_; simp only [↓reduceIte, QmW]))
      simp -implicitDefEqProofs only [Qg, ↓reduceIte, QmY, QN, Qp, Qw, Qm2]
      exact .inr ⟨by rw [nx, e1]; rfl, by rw [e1]⟩
    | cons c q =>
      have z1 : (((ps sb (c :: q) : Nat)) : Int) < sb.size := by have := Qcc hq; omega
      have z2 : ¬ (((ps sb (c :: q) : Nat)) : Int) ≥ sb.size := by omega
      have hix := YU Tryz.prog 9 (by kernel_rfl) sb (ps sb (c :: q)) (Qcc hq)
      rw [QaT hq] at hix
      have hw := Y4 hq hb
      have f3 := fun r2 e2 => Y0 hj sb (c :: q) 0 r2 e2 L
      by_cases hc : c.toNat = 32
      · have z3 := Qjv hc
        repeat (first | ((first | (with_reducible refine Qr fun K E hK hE => ?_) | (refine QP (id := 1) [(0, 0), (1, 0), (2, 0), (3, 0), (4, 0), (5, 0), (6, 0), (7, 0), (8, 0), (9, 0), (10, 0), (11, 0), (12, 0), (13, 0), (14, 0), (15, 0), (16, 0), (17, 0), (18, 0), (19, 0), (20, 0), (21, 0)] mixed (by kernel_rfl) fun K hK => ?_)); simp -implicitDefEqProofs only [Q1, QX, Q8, Qd, Qb, Qf, OpW, aop, undef, AS.ev, Qc, QL, Qn, Qg, AV.Qmr, Qo, QT, QB, Q7, Qnc, Qnd, Qs, Qne, ↓reduceIte, Qm5, Qm6, Nat.reduceAdd, Nat.reduceLT, Nat.reduceLeDiff, Nat.reduceEqDiff, Qm4, Qnh, Qnq, Ql, QG, QH, QW, QM, aBin, aLen, QmS, QmT, Qnm, QmU, QmX, QmV, Qnk, Qnj, Qm3, Qna, Qm1, Qm9, QR, Q3, XK, goInt, Qno, Qm0, QmW, ti3, ti9, Xm, Xl, QC, t0, f2, f3, hsl, z1, hix, z3, hw]) | (with_reducible (first | refine Qi fun K hK => ?_ | refine Qq ?_ | refine QD ?_ | refine Qj ?_ | refine QF ?_)) | ((with_reducible refine hK _ ?_); clear hK) | (refine Qk rfl ?_; simp only [↓reduceIte]))
        refine Yo.mk (m' := q.length) (by simp) ?_
        rw [hI]
        refine ⟨q, rfl, hq.tail, ?_, t0, rfl⟩
        rw [← hsk, QV, if_pos hc]
      · have z3 : (((c.toNat : Nat) : Int) == 32) = false := by simp; omega
        have e1 : QV r = c :: q := by rw [← hsk, QV, if_neg hc]
        repeat (first | ((first | (refine QP (id := 1) [(0, 0), (1, 0), (2, 0), (3, 0), (4, 0), (5, 0), (6, 0), (7, 0), (8, 0), (9, 0), (10, 0), (11, 0), (12, 0), (13, 0), (14, 0), (15, 0), (16, 0), (17, 0), (18, 0), (19, 0), (20, 0), (21, 0)] mixed (by kernel_rfl) fun K hK => ?_) | (refine QP (id := 3) [(0, 0), (1, 0), (2, 0), (3, 0), (4, 0), (5, 0), (6, 0), (7, 0), (8, 0), (9, 0), (10, 0), (11, 0), (12, 0), (13, 0), (14, 0), (15, 0), (16, 0)] mixed (by kernel_rfl) fun K hK => ?_) | (refine QP (id := 5) [(0, 0), (1, 0), (2, 0), (3, 0), (4, 0), (5, 0), (6, 0), (7, 0), (8, 0), (9, 0)] mixed (by kernel_rfl) fun K hK => ?_)); simp -implicitDefEqProofs only [Q1, QX, Q8, Qf, aop, AS.ev, Qc, Qn, Qg, Qo, ↓reduceIte, Nat.reduceLT, Nat.reduceEqDiff, Qm4, Qnh, Ql, QG, QH, aBin, aLen, QmS, QmT, QmU, QmX, QmV, QR, Q2, Q3, Xi, goInt, Qno, Qnp, Qm0, QnD, QmW, ti3, ti9, ti38, Xm, Xl, XI, QC, t0, f2, hsl, z1, z2, hix, z3]) | (with_reducible (first | refine Qi fun K hK => ?_ | refine Qm ?_ | refine QD ?_ | refine Xb ?_ | refine Qj ?_ | refine Q5 ?_ | refine Q4 ?_)) | ((with_reducible refine hK _ ?_); clear hK) | (clear hK; (with_reducible refine hK _ ?_); clear hK) | (refine Qk rfl ?_; simp only [↓reduceIte, QmW]))
        simp -implicitDefEqProofs only [Qg, ↓reduceIte, QmY, QN, Qp, Qw, Qm2]
        exact .inr ⟨by rw [nx, e1], by rw [e1]⟩
  · rw [hI]
    exact ⟨r, rfl, hr, rfl, rfl, rfl⟩
theorem QaM {sb : ByteArray} (hb : sb.size ≤ 1000000) {e : Int} (he : e ≠ 0) {r : List UInt8} (hr : Suf sb r) {h : AH} {j : Nat} (hj : j < h.length) (L : AH) :
    Xf Tryz.prog 56 [.ptr j 0 0] (hs h j (rr sb r e) ++ L) fun o h' => o = .ret (.v (.int .u8 0)) ∧ h' = hs h j (rr sb (QV r) e) ++ L := by
  have hsl := fun b => Yf Tryz.prog 9 3 (by kernel_rfl) b
  refine Qe Tryz.func56 rfl Tryz.call56 Tryz.ntmps56 (congrArg Array.toList Tryz.results56) (by simp) ?_
  iterate 4 (try (first | (((with_reducible refine Qa fun K E hK hE => ?_)); simp -implicitDefEqProofs only [Qd, Qb, Qf, OpW, aop, AS.ev, Qc, Qn, Nat.reduceLT]) | (with_reducible (first | refine Qi fun K hK => ?_ | refine Qq ?_)) | ((with_reducible refine hK _ ?_); clear hK)))
  obtain ⟨I, hI⟩ : ∃ I : Nat → AS → Prop, I = fun m' s => ∃ q : List UInt8, m' = q.length ∧ Suf sb q ∧ QV q = QV r ∧ s.tm 0 = .ptr j 0 0 ∧ s.h = hs h j (rr sb q e) ++ L := ⟨_, rfl⟩; refine XJ I ?_ (m := r.length) ?_
  · intro m' s hs; rw [hI] at hs; obtain ⟨tm, hp⟩ := s; dsimp only at hs; obtain ⟨q, rfl, hq, hsk, t0, rfl⟩ := hs
    have f2 := Yh hj sb q e L
    have z0 : (e != 0) = true := by simpa using he
    cases q with
    | nil =>
      have z1 : ¬ (((ps sb [] : Nat)) : Int) < sb.size := by rw [Qep]; omega
      have e1 : QV r = [] := by rw [← hsk]; rfl
      repeat (first | ((first | (with_reducible refine Qa fun K E hK hE => ?_) | (refine QP (id := 1) [(0, 0), (1, 0), (2, 0), (3, 0), (4, 0), (5, 0), (6, 0), (7, 0), (8, 0), (9, 0), (10, 0), (11, 0), (12, 0), (13, 0), (14, 0), (15, 0), (16, 0), (17, 0), (18, 0), (19, 0), (20, 0), (21, 0)] mixed (by kernel_rfl) fun K hK => ?_) | (refine QP (id := 3) [(0, 0), (1, 0), (2, 0), (3, 0), (4, 0), (5, 0), (6, 0), (7, 0), (8, 0), (9, 0), (10, 0), (11, 0), (12, 0), (13, 0), (14, 0), (15, 0), (16, 0)] mixed (by kernel_rfl) fun K hK => ?_)); simp -implicitDefEqProofs only [Q1, QX, Q8, Qd, Qb, Qf, OpW, aop, undef, AS.ev, Qc, Qn, Qt, Qg, Qo, Qnf, ↓reduceIte, Nat.reduceLT, Nat.reduceEqDiff, Qm4, Qnh, Ql, QG, QH, aBin, aLen, QmS, QmT, QmU, QmX, QmV, Q2, Q3, goInt, Qnp, QmW, beq_true, beq_false, ti3, ti9, ti38, Xm, Xl, XI, QC, t0, f2, hsl, z0, z1]) | (with_reducible (first | refine Qi fun K hK => ?_ | refine Qm ?_ | refine Xb ?_ | refine Qj ?_ | refine QA ?_ | refine Q5 ?_ | refine Q4 ?_)) | ((with_reducible refine hK _ ?_); clear hK) | (clear hK; (with_reducible refine hK _ ?_); clear hK) | (refine Qk rfl ?_; simp only [↓reduceIte, QmW]))
      simp -implicitDefEqProofs only [Qg, ↓reduceIte, QmY, QN, Qp, Qw, Qm2]
      exact .inr ⟨rfl, by rw [e1]⟩
    | cons c q =>
      have z1 : (((ps sb (c :: q) : Nat)) : Int) < sb.size := by have := Qcc hq; omega
      have hix := YU Tryz.prog 9 (by kernel_rfl) sb (ps sb (c :: q)) (Qcc hq)
      rw [QaT hq] at hix
      have hw := Y4 hq hb
      have f3 := fun r2 e2 => Y0 hj sb (c :: q) e r2 e2 L
      by_cases hc : c.toNat = 32
      · have z3 := Qjv hc
        repeat (first | ((first | (with_reducible refine Qr fun K E hK hE => ?_) | (refine QP (id := 1) [(0, 0), (1, 0), (2, 0), (3, 0), (4, 0), (5, 0), (6, 0), (7, 0), (8, 0), (9, 0), (10, 0), (11, 0), (12, 0), (13, 0), (14, 0), (15, 0), (16, 0), (17, 0), (18, 0), (19, 0), (20, 0), (21, 0)] mixed (by kernel_rfl) fun K hK => ?_)); simp -implicitDefEqProofs only [Q1, QX, Q8, Qd, Qb, Qf, OpW, aop, undef, AS.ev, Qc, QL, Qn, Qg, AV.Qmr, Qo, QT, QB, Q7, Qnc, Qnd, Qs, Qne, ↓reduceIte, Qm5, Qm6, Nat.reduceAdd, Nat.reduceLT, Nat.reduceLeDiff, Nat.reduceEqDiff, Qm4, Qnh, Qnq, Ql, QG, QH, QW, QM, aBin, aLen, QmS, QmT, Qnm, QmU, QmX, QmV, Qnk, Qnj, Qm3, Qna, Qm1, Qm9, QR, Q3, XK, goInt, Qno, Qm0, QmW, ti3, ti9, Xm, Xl, QC, t0, f2, f3, hsl, z1, hix, z3, hw]) | (with_reducible (first | refine Qi fun K hK => ?_ | refine Qq ?_ | refine QD ?_ | refine Qj ?_ | refine QF ?_)) | ((with_reducible refine hK _ ?_); clear hK) | (refine Qk rfl ?_; simp only [↓reduceIte]))
        refine Yo.mk (m' := q.length) (by simp) ?_
        rw [hI]
        refine ⟨q, rfl, hq.tail, ?_, t0, rfl⟩
        rw [← hsk, QV, if_pos hc]
      · have z3 : (((c.toNat : Nat) : Int) == 32) = false := by simp; omega
        have e1 : QV r = c :: q := by rw [← hsk, QV, if_neg hc]
        repeat (first | ((first | (with_reducible refine Qa fun K E hK hE => ?_) | (refine QP (id := 1) [(0, 0), (1, 0), (2, 0), (3, 0), (4, 0), (5, 0), (6, 0), (7, 0), (8, 0), (9, 0), (10, 0), (11, 0), (12, 0), (13, 0), (14, 0), (15, 0), (16, 0), (17, 0), (18, 0), (19, 0), (20, 0), (21, 0)] mixed (by kernel_rfl) fun K hK => ?_) | (refine QP (id := 3) [(0, 0), (1, 0), (2, 0), (3, 0), (4, 0), (5, 0), (6, 0), (7, 0), (8, 0), (9, 0), (10, 0), (11, 0), (12, 0), (13, 0), (14, 0), (15, 0), (16, 0)] mixed (by kernel_rfl) fun K hK => ?_)); simp -implicitDefEqProofs only [Q1, QX, Q8, Qd, Qb, Qf, OpW, aop, undef, AS.ev, Qc, Qn, Qt, Qg, Qo, Qnf, ↓reduceIte, Nat.reduceLT, Nat.reduceEqDiff, Qm4, Qnh, Ql, QG, QH, aBin, aLen, QmS, QmT, QmU, QmX, QmV, QR, Q2, Q3, goInt, Qno, Qm0, beq_false, ti3, ti9, ti38, Xm, Xl, XI, QC, t0, f2, hsl, z0, z1, hix, z3]) | (with_reducible (first | refine Qi fun K hK => ?_ | refine Qm ?_ | refine Xb ?_ | refine Qj ?_ | refine QA ?_ | refine Q5 ?_ | refine Q4 ?_)) | ((with_reducible refine hK _ ?_); clear hK) | (clear hK; (with_reducible refine hK _ ?_); clear hK) | (refine Qk rfl ?_; simp only [↓reduceIte, QmW]))
        simp -implicitDefEqProofs only [Qg, ↓reduceIte, QmY, QN, Qp, Qw, Qm2]
        exact .inr ⟨rfl, by rw [e1]⟩
  · rw [hI]
    exact ⟨r, rfl, hr, rfl, rfl, rfl⟩
end Go.Proofs.YtehjodmnajgdgaaGreatDoor.Ab
set_option maxRecDepth 4000
namespace Go.Proofs.YtehjodmnajgdgaaGreatDoor.Ab
open Go.Proofs
theorem Qeq {sb : ByteArray} (hb : sb.size ≤ 1000000) {r : List UInt8} (hr : Suf sb r) {h : AH} {j : Nat} (hj : j < h.length) (L : AH) :
    Xf Tryz.prog 98 [.ptr j 0 0] (hs h j (rr sb r 0) ++ L) fun o h' => o = .ret (.v (.string (mkB (r.takeWhile isW)))) ∧ h' = hs h j (rr sb (r.dropWhile isW) 0) ++ L := by
  have f20 := Yh hj sb r 0 L
  have hsz := hr.len
  refine Qe Tryz.func98 rfl Tryz.call98 Tryz.ntmps98 (congrArg Array.toList Tryz.results98) (by simp) ?_
  iterate 6 (try (first | (((with_reducible refine Qa fun K E hK hE => ?_)); simp -implicitDefEqProofs only [Qd, Qb, Qf, OpW, aop, undef, AS.ev, Qc, QO, Qg, Qv, QmZ, Qo, ↓reduceIte, Nat.reduceLT, Nat.reduceEqDiff, Qm4, Ql, QG, QH, QmS, QmT, QmU, ti3, Xl, QC, f20]) | (with_reducible (first | refine Qi fun K hK => ?_ | refine Qq ?_)) | ((with_reducible refine hK _ ?_); clear hK)))
  obtain ⟨I, hI⟩ : ∃ I : Nat → AS → Prop, I = fun m' s => ∃ q : List UInt8, m' = q.length ∧ Suf sb q ∧ q.dropWhile isW = r.dropWhile isW ∧ s.tm 0 = .ptr j 0 0 ∧ s.tm 3 = .i (ps sb r : Nat) ∧ s.h = hs h j (rr sb q 0) ++ L := ⟨_, rfl⟩; refine XJ I ?_ (m := r.length) ?_
  · intro m' s hs; rw [hI] at hs; obtain ⟨tm, hp⟩ := s; dsimp only at hs; obtain ⟨q, rfl, hq, hsk, t0, t3, rfl⟩ := hs
    have f2 := Yh hj sb q 0 L
    have cl := YO hb hq hj q 0 L
    have cd := XM hb hq hj q 0 L
    have fin : ∀ p : List UInt8, p = q → q.dropWhile isW = q → pv Tryz.prog (Instr.sliceAt 9 (.string sb) (some (.int .i64 (ps sb r : Nat))) (some (.int .i64 (ps sb q : Nat))) none) = some (.string (mkB (r.takeWhile isW))) := fun p _ e => by
      have hl := hq.len
      have e1 : q = r.dropWhile isW := by rw [← hsk, e]
      have hle : q.length ≤ r.length := by rw [e1]; exact Z6 isW r
      have := Qbs Tryz.prog 9 (by kernel_rfl) sb (some (.i64, (ps sb r : Nat))) (some (.i64, (ps sb q : Nat))) (ps sb r) (ps sb q) ⟨by omega, by simp only [ps]; omega, by omega⟩ ⟨by omega, by simp only [ps]; omega, by omega⟩
      rw [e1, QlH hr] at this
      rw [e1]; exact this
    cases q with
    | nil =>
      have fn := fin [] rfl rfl
      simp only [Qbv, headD] at cl cd
      repeat (first | ((first | (with_reducible (first | refine Qa fun K E hK hE => ?_ | refine FunW.ret (FunW.call cl) ?_ | refine FunW.ret (FunW.call cd) ?_)) | (refine QP (id := 4) [(0, 0), (1, 0), (2, 0), (3, 0), (4, 0), (5, 0), (6, 0), (7, 0), (8, 0), (9, 0), (10, 0)] mixed (by kernel_rfl) fun K hK => ?_)); simp -implicitDefEqProofs only [Q1, QX, Q8, Qd, Qb, Qf, OpW, QQ, aop, AS.ev, Qc, Qg, Qo, ↓reduceIte, Nat.reduceLT, Nat.reduceEqDiff, Qm4, Qnh, Ql, QG, QH, YF, QmS, QmT, QmU, QmX, QmV, Qm7, Qnb, Qm0, QmW, ti3, ti9, ei9, Xm, Xl, QC, t0, t3, f2, fn]) | (with_reducible (first | refine Qi fun K hK => ?_ | refine Qm ?_ | refine Xb ?_ | refine Qj ?_ | refine Q5 ?_ | refine Q4 ?_)) | ((with_reducible refine hK _ ?_); clear hK) | (clear hK; (with_reducible refine hK _ ?_); clear hK) | (refine Qk rfl ?_; simp only [↓reduceIte, QmW]))
      simp -implicitDefEqProofs only [Qg, ↓reduceIte, QmY, QN, Qp, Qw, Qm2]
      exact .inr ⟨rfl, by rw [← hsk]; rfl⟩
    | cons c q =>
      have hw := Y4 hq hb
      have f3 := fun r2 e2 => Y0 hj sb (c :: q) 0 r2 e2 L
      simp only [Qbv, headD] at cl cd
      by_cases hc : isW c = true
      · have next : q.dropWhile isW = r.dropWhile isW := by rw [← hsk, List.dropWhile_cons, hc]; rfl
        cases h1 : isL c with
        | true =>
          rw [h1] at cl
          repeat (first | ((first | (with_reducible (first | refine Qa fun K E hK hE => ?_ | refine Qr fun K E hK hE => ?_ | refine FunW.ret (FunW.call cl) ?_))); simp -implicitDefEqProofs only [Qd, Qb, Qf, OpW, QQ, aop, undef, AS.ev, Qc, QL, Qn, Qt, Qg, AV.Qmr, Qo, QT, QB, Q7, Qnc, Qnd, Qs, Qne, Qnf, ↓reduceIte, Qm5, Qm6, Nat.reduceAdd, Nat.reduceLT, Nat.reduceLeDiff, Nat.reduceEqDiff, Qm4, Qnq, Ql, QG, QH, QW, QM, aBin, QmS, QmT, Qnm, QmU, QmX, QmV, Qm7, Qnb, Qnk, Qnj, Qm3, Qna, Qm1, Qm9, XK, QmW, beq_false, ti3, Xl, QC, t0, f2, f3, hw]) | (with_reducible (first | refine Qi fun K hK => ?_ | refine Qq ?_ | refine QD ?_ | refine Qj ?_ | refine QF ?_)) | ((with_reducible refine hK _ ?_); clear hK) | (refine Qk rfl ?_; simp only [↓reduceIte]))
          refine Yo.mk (m' := q.length) (by simp) ?_
          rw [hI]
          exact ⟨q, rfl, hq.tail, next, t0, t3, rfl⟩
        | false =>
          have h2 : isD c = true := by rw [isW, h1, Bool.false_or] at hc; exact hc
          rw [h1] at cl
          rw [h2] at cd
          repeat (first | ((first | (with_reducible (first | refine Qa fun K E hK hE => ?_ | refine Qr fun K E hK hE => ?_ | refine FunW.ret (FunW.call cl) ?_ | refine FunW.ret (FunW.call cd) ?_))); simp -implicitDefEqProofs only [Qd, Qb, Qf, OpW, QQ, aop, undef, AS.ev, Qc, QL, Qn, Qg, AV.Qmr, Qo, QT, QB, Q7, Qnc, Qnd, Qs, Qne, ↓reduceIte, Qm5, Qm6, Nat.reduceAdd, Nat.reduceLT, Nat.reduceLeDiff, Nat.reduceEqDiff, Qm4, Qnq, Ql, QG, QH, QW, QM, aBin, QmS, QmT, Qnm, QmU, QmX, QmV, Qm7, Qnb, Qnk, Qnj, Qm3, Qna, Qm1, Qm9, XK, Qm0, QmW, ti3, Xl, QC, t0, f2, f3, hw]) | (with_reducible (first | refine Qi fun K hK => ?_ | refine Qq ?_ | refine QD ?_ | refine Qj ?_ | refine QF ?_)) | ((with_reducible refine hK _ ?_); clear hK) | (refine Qk rfl ?_; simp only [↓reduceIte]))
          refine Yo.mk (m' := q.length) (by simp) ?_
          rw [hI]
          exact ⟨q, rfl, hq.tail, next, t0, t3, rfl⟩
      · rw [Bool.not_eq_true] at hc
        have h1 : isL c = false ∧ isD c = false := by rw [isW, Bool.or_eq_false_iff] at hc; exact hc
        rw [h1.1] at cl
        rw [h1.2] at cd
        have e1 : (c :: q).dropWhile isW = c :: q := by rw [List.dropWhile_cons, hc]; rfl
        have fn := fin (c :: q) rfl e1
        repeat (first | ((first | (with_reducible (first | refine Qa fun K E hK hE => ?_ | refine FunW.ret (FunW.call cl) ?_ | refine FunW.ret (FunW.call cd) ?_)) | (refine QP (id := 4) [(0, 0), (1, 0), (2, 0), (3, 0), (4, 0), (5, 0), (6, 0), (7, 0), (8, 0), (9, 0), (10, 0)] mixed (by kernel_rfl) fun K hK => ?_)); simp -implicitDefEqProofs only [Q1, QX, Q8, Qd, Qb, Qf, OpW, QQ, aop, AS.ev, Qc, Qg, Qo, ↓reduceIte, Nat.reduceLT, Nat.reduceEqDiff, Qm4, Qnh, Ql, QG, QH, YF, QmS, QmT, QmU, QmX, QmV, Qm7, Qnb, Qm0, QmW, ti3, ti9, ei9, Xm, Xl, QC, t0, t3, f2, fn]) | (with_reducible (first | refine Qi fun K hK => ?_ | refine Qm ?_ | refine Xb ?_ | refine Qj ?_ | refine Q5 ?_ | refine Q4 ?_)) | ((with_reducible refine hK _ ?_); clear hK) | (clear hK; (with_reducible refine hK _ ?_); clear hK) | (refine Qk rfl ?_; simp only [↓reduceIte, QmW]))
        simp -implicitDefEqProofs only [Qg, ↓reduceIte, QmY, QN, Qp, Qw, Qm2]
        exact .inr ⟨rfl, by rw [← hsk, e1]⟩
  · rw [hI]
    exact ⟨r, rfl, hr, rfl, rfl, rfl, rfl⟩
end Go.Proofs.YtehjodmnajgdgaaGreatDoor.Ab
set_option maxRecDepth 4000
namespace Go.Proofs.YtehjodmnajgdgaaGreatDoor.Ab
open Go.Proofs
theorem QlC (p : UInt8 → Bool) (r : List UInt8) : (r.takeWhile p).length ≤ r.length := (List.takeWhile_sublist p).length_le
theorem QiR (s : ByteArray) (h : s.size ≤ 9223372036854775807) : Pure Tryz.prog 64 [.v (.string s)] (.b (Yp s)) := QaD s h
theorem Qew {sb : ByteArray} (hb : sb.size ≤ 1000000) {r : List UInt8} (hr : Suf sb r) {h : AH} {j : Nat} (hj : j < h.length) (L : AH) :
    Xf Tryz.prog 57 [.ptr j 0 0] (hs h j (rr sb r 0) ++ L) fun o h' => o = .ret (.v (.string (mkB (r.takeWhile isW)))) ∧ h' = hs h j (rr sb (r.dropWhile isW) (if Yp (mkB (r.takeWhile isW)) = true then 0 else 7)) ++ L := by
  have cw := Qeq hb hr hj L
  have hsz := hr.len
  have hlw := QlC isW r
  have cr := QiR (mkB (r.takeWhile isW)) (by rw [XX]; omega)
  have cf := (Y3 (s := sb) (r.dropWhile isW) 7 j).app hj L
  cases h1 : Yp (mkB (r.takeWhile isW)) with
  | true =>
    rw [h1] at cr
    rw [if_pos rfl]
    refine Qe Tryz.func57 rfl Tryz.call57 Tryz.ntmps57 (congrArg Array.toList Tryz.results57) (by simp) ?_
    repeat (first | ((first | (with_reducible (first | refine Qa fun K E hK hE => ?_ | refine Qz cr ?_ | refine FunW.ret (FunW.call cw) ?_))); simp -implicitDefEqProofs only [Qd, Qb, Qf, OpW, QQ, aop, undef, AS.ev, Qc, QO, Qg, Qv, QmZ, Qnf, ↓reduceIte, Nat.reduceLT, Nat.reduceEqDiff, QmU, Qm7, Qnb, Xp]) | (with_reducible (first | refine Qi fun K hK => ?_ | refine Qm ?_ | refine QD ?_ | refine Qj ?_)) | ((with_reducible refine hK _ ?_); clear hK) | (refine Qk rfl ?_; simp only [↓reduceIte, QmW]))
    simp -implicitDefEqProofs only [Qg, ↓reduceIte, QmY, QN, Qp, Qw, Qm2]
    exact .inr ⟨rfl, rfl⟩
  | false =>
    rw [h1] at cr
    rw [if_neg (by decide)]
    refine Qe Tryz.func57 rfl Tryz.call57 Tryz.ntmps57 (congrArg Array.toList Tryz.results57) (by simp) ?_
    repeat (first | ((first | (with_reducible (first | refine Qa fun K E hK hE => ?_ | refine Qr fun K E hK hE => ?_ | refine Qz cr ?_ | refine FunW.ret (FunW.call cw) ?_ | refine FunW.ret (FunW.call cf) ?_))); simp -implicitDefEqProofs only [Qd, Qb, Qf, OpW, QQ, aop, undef, AS.ev, Qc, Qn, QO, Qg, Qv, QmZ, Qng, ↓reduceIte, Nat.reduceLT, Nat.reduceEqDiff, QmU, Qm7, Qnb, Xp]) | (with_reducible (first | refine Qi fun K hK => ?_ | refine Qm ?_ | refine Qj ?_)) | ((with_reducible refine hK _ ?_); clear hK) | (refine Qk rfl ?_; simp only [↓reduceIte]))
    simp -implicitDefEqProofs only [Qg, ↓reduceIte, QmY, QN, Qp, Qw, Qm2]
    exact .inr ⟨rfl, rfl⟩
end Go.Proofs.YtehjodmnajgdgaaGreatDoor.Ab
set_option maxRecDepth 4000
namespace Go.Proofs.YtehjodmnajgdgaaGreatDoor.Ab
open Go.Proofs
abbrev RT := T × List UInt8 × Int
abbrev RL := List T × List UInt8 × Int
def zT : T := .mk 0 0 eB []
def rInt (sign : Int) : List UInt8 → RT
 | [] => (zT, [], 16)
 | c :: r => if c.toNat = 48 ∧ (sign < 0 ∨ headD r = true) then (zT, c :: r, 16) else
  if ZD ((c :: r).takeWhile isD) ≤ 2147483648 then (.mk 0 (sign * ZD ((c :: r).takeWhile isD)) eB [], (c :: r).dropWhile isD, 0) else (zT, (c :: r).dropWhile isD, 5)
def Qea (ex : List UInt8 → RT) : Nat → List T → List UInt8 → RL
 | 0, _, r => ([], r, 16)
 | m + 1, l, r => if (ex r).2.2 ≠ 0 then ([], QV (ex r).2.1, (ex r).2.2) else match QV (ex r).2.1 with
  | [] => ([], [], 16)
  | d :: r4 => if d.toNat = 41 then (l ++ [(ex r).1], r4, 0) else if d.toNat = 44 then Qea ex m (l ++ [(ex r).1]) r4 else ([], d :: r4, 16)
def QaP (ex : List UInt8 → RT) (r : List UInt8) : RL := match QV r with
 | [] => ([], [], 0)
 | c :: r2 => if c.toNat = 40 then Qea ex (r2.length + 1) [] r2 else ([], c :: r2, 0)
def rName (ex : List UInt8 → RT) (r : List UInt8) : RL := if Yp (mkB (r.takeWhile isW)) = true then QaP ex (r.dropWhile isW) else ([], QV (r.dropWhile isW), 7)
def Zu (ex : List UInt8 → RT) (r : List UInt8) : RT := match QV r with
 | [] => (zT, [], 16)
 | c :: r2 =>
  if isD c = true then rInt 1 (c :: r2) else
  if c.toNat = 45 ∧ headD r2 = true then rInt (-1) r2 else
  if 97 ≤ c.toNat ∧ c.toNat ≤ 122 then (.mk 2 0 (mkB ((c :: r2).takeWhile isW)) (rName ex (c :: r2)).1, (rName ex (c :: r2)).2) else
  if isL c = true then (match varV (mkB ((c :: r2).takeWhile isW)) with
   | some k => (.mk 1 k eB [], (c :: r2).dropWhile isW, 0)
   | none => (zT, (c :: r2).dropWhile isW, 7)) else
  if c.toNat = 40 then (if (ex r2).2.2 ≠ 0 then (zT, QV (ex r2).2.1, (ex r2).2.2) else match QV (ex r2).2.1 with
   | [] => (zT, [], 16)
   | d :: r4 => if d.toNat = 41 then ((ex r2).1, r4, 0) else (zT, d :: r4, 16)) else (zT, c :: r2, 16)
def Zv (op : List UInt8 → RT) (st : Int) : Nat → RT → RT
 | 0, x => (x.1, QV x.2.1, x.2.2)
 | m + 1, x => if x.2.2 ≠ 0 then (x.1, QV x.2.1, x.2.2) else match QV x.2.1 with
  | [] => (x.1, [], 0)
  | c :: r2 => if ofB (mkB [c]) = st then Zv op st m (.mk 2 0 (mkB [c]) [x.1, (op r2).1], (op r2).2) else (x.1, c :: r2, 0)
def Qb6 (op : List UInt8 → RT) (st : Int) (r : List UInt8) : RT := Zv op st ((op r).2.1.length + 1) (op r)
def Zz : Nat → List UInt8 → RT
 | 0 => fun r => (zT, r, 16)
 | n + 1 => Qb6 (Qb6 (Zu (Zz n)) 2) 1
theorem Yd : ∀ r : List UInt8, QV r <:+ r
 | [] => List.suffix_refl _
 | c :: r => by
  rw [QV]
  split
  ·exact (Yd r).trans (List.suffix_cons c r)
  ·exact List.suffix_refl _
theorem QbU {r r2 : List UInt8} {c : UInt8} (h : QV r = c :: r2) : r2 <:+ r := (List.suffix_cons c r2).trans (h ▸ Yd r)
def Sf (g : List UInt8 → RT) : Prop := ∀ r, (g r).2.1 <:+ r
theorem Qli (sign : Int) (r : List UInt8) : (rInt sign r).2.1 <:+ r := by
 cases r with
 | nil => exact List.suffix_refl _
 | cons c r =>
  rw [rInt]
  split
  ·exact List.suffix_refl _
  ·split
   ·exact List.dropWhile_suffix _
   ·exact List.dropWhile_suffix _
theorem Qj4 {ex : List UInt8 → RT} (H : Sf ex) : ∀ (m : Nat) (l : List T) (r : List UInt8), (Qea ex m l r).2.1 <:+ r
 | 0, _, _ => List.suffix_refl _
 | m + 1, l, r => by
  rw [Qea]
  split
  ·exact (Yd _).trans (H r)
  ·split
   ·exact List.nil_suffix
   ·rename_i d r4 h
    have h4 : r4 <:+ r := (QbU h).trans (H r)
    split
    ·exact h4
    ·split
     ·exact (Qj4 H m _ r4).trans h4
     ·exact (h ▸ Yd _ : d :: r4 <:+ (ex r).2.1).trans (H r)
theorem QlE {ex : List UInt8 → RT} (H : Sf ex) (r : List UInt8) : (QaP ex r).2.1 <:+ r := by
 rw [QaP]
 split
 ·exact List.nil_suffix
 ·rename_i c r2 h
  split
  ·exact (Qj4 H _ _ r2).trans (QbU h)
  ·exact h ▸ Yd r
theorem QjF {ex : List UInt8 → RT} (H : Sf ex) (r : List UInt8) : (rName ex r).2.1 <:+ r := by
 rw [rName]
 split
 ·exact (QlE H _).trans (List.dropWhile_suffix _)
 ·exact (Yd _).trans (List.dropWhile_suffix _)
theorem Qg7 {ex : List UInt8 → RT} (H : Sf ex) : Sf (Zu ex) := by
 intro r
 rw [Zu]
 split
 ·exact List.nil_suffix
 ·rename_i c r2 h
  have h0 : c :: r2 <:+ r := h ▸ Yd r
  have h2 : r2 <:+ r := QbU h
  split
  ·exact (Qli 1 _).trans h0
  ·split
   ·exact (Qli (-1) _).trans h2
   ·split
    ·exact (QjF H _).trans h0
    ·split
     ·split
      ·exact (List.dropWhile_suffix _).trans h0
      ·exact (List.dropWhile_suffix _).trans h0
     ·split
      ·split
       ·exact ((Yd _).trans (H r2)).trans h2
       ·split
        ·exact List.nil_suffix
        ·rename_i d r4 h4
         split
         ·exact ((QbU h4).trans (H r2)).trans h2
         ·exact ((h4 ▸ Yd _ : d :: r4 <:+ (ex r2).2.1).trans (H r2)).trans h2
      ·exact h0
theorem Qge {op : List UInt8 → RT} (H : Sf op) (st : Int) : ∀ (m : Nat) (x : RT), (Zv op st m x).2.1 <:+ x.2.1
 | 0, x => Yd _
 | m + 1, x => by
  rw [Zv]
  split
  ·exact Yd _
  ·split
   ·exact List.nil_suffix
   ·rename_i c r2 h
    split
    ·exact (Qge H st m _).trans ((H r2).trans (QbU h))
    ·exact h ▸ Yd _
theorem Qfl {op : List UInt8 → RT} (H : Sf op) (st : Int) : Sf (Qb6 op st) := fun r => (Qge H st _ _).trans (H r)
theorem QbK : ∀ n, Sf (Zz n)
 | 0 => fun r => List.suffix_refl _
 | n + 1 => Qfl (Qfl (Qg7 (QbK n)) 2) 1
def RelE {α : Type} (p : Res α) (x : α × List UInt8 × Int) : Prop := match p with
 | .ok t r => x = (t, r, 0)
 | .err e => x.2.2 = e ∧ e ≠ 0
theorem RelE.ok {α : Type} {t : α} {r : List UInt8} {x : α × List UInt8 × Int} (h : RelE (.ok t r) x) : x = (t, r, 0) := h
theorem RelE.err {α : Type} {e : Int} {x : α × List UInt8 × Int} (h : RelE (.err e : Res α) x) : x.2.2 = e ∧ e ≠ 0 := h
theorem QhN (sign : Int) (hs : sign = 1 ∨ sign = -1) (c : UInt8) (r : List UInt8) (hd : isD c = true) : RelE (pInt true sign (c :: r)) (rInt sign (c :: r)) := by
 rw [pInt, rInt]
 by_cases h48 : c.toNat = 48
 ·rw [if_pos h48]
  by_cases h2 : sign < 0 ∨ headD r = true
  ·rw [if_pos (by simpa using h2), if_pos ⟨h48, h2⟩]
   exact ⟨rfl, by decide⟩
  ·rw [if_neg (by simpa using h2), if_neg (fun h => h2 h.2)]
   have hr : headD r = false := by
    cases h : headD r with
    | true => exact absurd (.inr h) h2
    | false => rfl
   have e1 : r.takeWhile isD = [] ∧ r.dropWhile isD = r := by
    cases r with
    | nil => exact ⟨rfl, rfl⟩
    | cons d r =>
     have : isD d = false := hr
     rw [List.takeWhile_cons, List.dropWhile_cons, this]; exact ⟨rfl, rfl⟩
   have e2 : ZD ((c :: r).takeWhile isD) = 0 := by
    rw [List.takeWhile_cons, hd]
    simp only [if_true, e1.1]
    rw [ZD, List.foldl_cons, List.foldl_nil, h48]
   rw [e2, if_pos (by omega), List.dropWhile_cons, hd]
   simp only [if_true, e1.2]
   rcases hs with rfl | rfl <;> rfl
 ·rw [if_neg h48, if_neg (c := c.toNat = 48 ∧ _) (fun h => h48 h.1)]
  split
  ·rfl
  ·exact ⟨rfl, by decide⟩
theorem QdP {f : List UInt8 → Res T} {g : List UInt8 → RT} (H : ∀ r, RelE (f r) (g r)) (He : Eats 0 f) : ∀ (M m : Nat) (l : List T) (r : List UInt8), r.length < M → (∀ t r3, f r = .ok t r3 → r3.length < m) →
  RelE (match f r with
   | .ok t r3 => ZZ f m (l ++ [t]) r3
   | .err e => .err e) (Qea g M l r)
 | 0, m, l, r, h, _ => absurd h (Nat.not_lt_zero _)
 | M + 1, m, l, r, hM, hm => by
  have h := H r
  rw [Qea]
  cases hf : f r with
  | err e =>
   rw [hf] at h
   obtain ⟨h1, h2⟩ := h.err
   rw [if_pos (by rw [h1]; exact h2)]
   exact ⟨h1, h2⟩
  | ok t r3 =>
   rw [hf] at h
   have h := h.ok
   have hr3 := He r t r3 hf
   have h3 := hm t r3 hf
   rw [h]
   simp only [ne_eq, not_true_eq_false, if_false]
   cases m with
   | zero => omega
   | succ m =>
    rw [ZZ]
    cases hs : QV r3 with
    | nil => exact ⟨rfl, by decide⟩
    | cons d r4 =>
     have hlt := Xe hs
     simp only
     by_cases h44 : d.toNat = 44
     ·rw [if_pos h44, if_neg (by omega), if_pos h44]
      exact QdP H He M m (l ++ [t]) r4 (by omega) fun t' r5 e => by have := He r4 t' r5 e; omega
     ·rw [if_neg h44]
      by_cases h41 : d.toNat = 41
      ·rw [if_pos h41, if_pos h41]; rfl
      ·rw [if_neg h41, if_neg h41, if_neg h44]; exact ⟨rfl, by decide⟩
theorem Qkh {f : List UInt8 → Res T} {g : List UInt8 → RT} (H : ∀ r, RelE (f r) (g r)) (He : Eats 0 f) (r : List UInt8) : RelE (Qaw f r) (QaP g r) := by
 rw [Qaw, QaP]
 cases hs : QV r with
 | nil => rfl
 | cons c r2 =>
  simp only
  by_cases h : c.toNat = 40
  ·rw [if_pos h, if_pos h]
   cases hf : f r2 with
   | err e =>
    have := QdP H He (r2.length + 1) 0 [] r2 (by omega) (fun t r3 e => by rw [hf] at e; cases e)
    rw [hf] at this
    exact this
   | ok t r3 =>
    have := QdP H He (r2.length + 1) (r3.length + 1) [] r2 (by omega) (fun t' r3' e => by rw [hf] at e; cases e; omega)
    rw [hf] at this
    exact this
  ·rw [if_neg h, if_neg h]; rfl
theorem QdV {f : List UInt8 → Res T} {g : List UInt8 → RT} (H : ∀ r, RelE (f r) (g r)) (He : Eats 0 f) (c : UInt8) (r : List UInt8) (hc : 97 ≤ c.toNat) : RelE (Z8 f (c :: r)) (.mk 2 0 (mkB ((c :: r).takeWhile isW)) (rName g (c :: r)).1, (rName g (c :: r)).2) := by
 rw [Z8, List.headD_cons, if_neg (by omega), rName]
 by_cases h : Yp (mkB ((c :: r).takeWhile isW)) = true
 ·rw [if_pos h, if_pos h]
  have ha := Qkh H He ((c :: r).dropWhile isW)
  cases hp : Qaw f ((c :: r).dropWhile isW) with
  | ok l r2 =>
   rw [hp] at ha
   rw [ha.ok]; rfl
  | err e =>
   rw [hp] at ha
   exact ha.err
 ·rw [if_neg h, if_neg h]; exact ⟨rfl, by decide⟩
theorem QjS {f : List UInt8 → Res T} {g : List UInt8 → RT} (H : ∀ r, RelE (f r) (g r)) (He : Eats 0 f) (r : List UInt8) : RelE (QbM true f r) (Zu g r) := by
 rw [QbM, Zu]
 cases hs : QV r with
 | nil => exact ⟨rfl, by decide⟩
 | cons c r2 =>
  simp only
  by_cases h1 : isD c = true
  ·rw [if_pos h1, if_pos h1]; exact QhN 1 (.inl rfl) c r2 h1
  rw [if_neg h1, if_neg h1]
  by_cases h2 : c.toNat = 45
  ·have nL : ¬ isL c = true := by simp [isL]; omega
   rw [if_pos h2]
   by_cases h3 : headD r2 = true
   ·rw [if_pos h3, if_pos ⟨h2, h3⟩]
    cases r2 with
    | nil => cases h3
    | cons d r2 => exact QhN (-1) (.inr rfl) d r2 h3
   ·rw [if_neg h3, if_neg (fun h => h3 h.2), if_neg (by omega), if_neg nL, if_neg (by omega)]
    exact ⟨rfl, by decide⟩
  rw [if_neg h2, if_neg (c := c.toNat = 45 ∧ _) (fun h => h2 h.1)]
  by_cases h3 : isL c = true
  ·rw [if_pos h3]
   have hl : 97 ≤ c.toNat ∧ c.toNat ≤ 122 ∨ 65 ≤ c.toNat ∧ c.toNat ≤ 90 ∨ c.toNat = 95 := by simpa [isL] using h3
   by_cases h97 : 97 ≤ c.toNat
   ·rw [if_pos ⟨h97, by omega⟩]
    exact QdV H He c r2 h97
   ·rw [if_neg (by omega), if_pos h3, Z8, List.headD_cons, if_pos (by omega)]
    cases varV (mkB ((c :: r2).takeWhile isW)) with
    | some k => rfl
    | none => exact ⟨rfl, by decide⟩
  ·have hl : ¬ (97 ≤ c.toNat ∧ c.toNat ≤ 122) := fun h => h3 (by rw [isL, decide_eq_true (.inl h)])
   rw [if_neg h3, if_neg hl, if_neg h3]
   by_cases h4 : c.toNat = 40
   ·rw [if_pos h4, if_pos h4]
    have h := H r2
    cases hf : f r2 with
    | err e =>
     rw [hf] at h
     obtain ⟨a1, a2⟩ := h.err
     rw [if_pos (by rw [a1]; exact a2)]
     exact ⟨a1, a2⟩
    | ok t r3 =>
     rw [hf] at h
     rw [h.ok]
     simp only [ne_eq, not_true_eq_false, if_false]
     cases QV r3 with
     | nil => exact ⟨rfl, by decide⟩
     | cons d r4 =>
      simp only
      by_cases h5 : d.toNat = 41
      ·rw [if_pos h5, if_pos h5]; rfl
      ·rw [if_neg h5, if_neg h5]; exact ⟨rfl, by decide⟩
   ·rw [if_neg h4, if_neg h4]; exact ⟨rfl, by decide⟩
theorem Qd5 (op : List UInt8 → RT) (st : Int) (m : Nat) (x : RT) (h : x.2.2 ≠ 0) : Zv op st m x = (x.1, QV x.2.1, x.2.2) := by
 cases m with
 | zero => rfl
 | succ m => rw [Zv, if_pos h]
theorem QdU {f : List UInt8 → Res T} {g : List UInt8 → RT} (H : ∀ r, RelE (f r) (g r)) (He : Eats 0 f) (st : Int) : ∀ (M m : Nat) (t : T) (r : List UInt8), r.length < M → r.length < m → RelE (YT f st m t r) (Zv g st M (t, r, 0))
 | 0, _, _, _, h, _ => absurd h (Nat.not_lt_zero _)
 | M + 1, 0, _, _, _, h => absurd h (Nat.not_lt_zero _)
 | M + 1, m + 1, t, r, hM, hm => by
  rw [YT, Zv]
  simp only [ne_eq, not_true_eq_false, if_false]
  cases hs : QV r with
  | nil => rfl
  | cons c r2 =>
   have hlt := Xe hs
   simp only
   by_cases h : ofB (mkB [c]) = st
   ·rw [if_pos h, if_pos h]
    have h2 := H r2
    cases hf : f r2 with
    | err e =>
     rw [hf] at h2
     obtain ⟨a1, a2⟩ := h2.err
     rw [Qd5 _ _ _ _ (by rw [a1]; exact a2)]
     exact ⟨a1, a2⟩
    | ok u r3 =>
     rw [hf] at h2
     have := He r2 u r3 hf
     rw [h2.ok]
     exact QdU H He st M m _ r3 (by omega) (by omega)
   ·rw [if_neg h, if_neg h]; rfl
theorem QeF {f : List UInt8 → Res T} {g : List UInt8 → RT} (H : ∀ r, RelE (f r) (g r)) (He : Eats 0 f) (st : Int) (r : List UInt8) : RelE (chain f st r) (Qb6 g st r) := by
 rw [chain, Qb6]
 have h := H r
 cases hf : f r with
 | err e =>
  rw [hf] at h
  obtain ⟨a1, a2⟩ := h.err
  rw [Qd5 _ _ _ _ (by rw [a1]; exact a2)]
  exact ⟨a1, a2⟩
 | ok t r2 =>
  rw [hf] at h
  rw [h.ok]
  exact QdU H He st _ _ t r2 (by simp) (by omega)
theorem Qa8 : ∀ n r, RelE (QaQ true n r) (Zz n r)
 | 0, r => ⟨rfl, by decide⟩
 | n + 1, r => by
  have e1 := (QdD true (Zx true n)).zero
  exact QeF (QeF (QjS (Qa8 n) (Zx true n)) e1 2) (Qbj e1 2) 1 r
end Go.Proofs.YtehjodmnajgdgaaGreatDoor.Ab
set_option maxRecDepth 4000
namespace Go.Proofs.YtehjodmnajgdgaaGreatDoor.Ab
open Go.Proofs
def DQ (sb : ByteArray) (h : AH) (j : Nat) (x : RT) : AOut → AH → Prop := fun o h' => o = .ret x.1.av ∧ h' = hs h j (rr sb x.2.1 x.2.2)
theorem Zo {sb : ByteArray} {h : AH} {i : Nat} {l r : List UInt8} {e e2 : Int} {t : T} {L : AH} : Leaves (hs h i (rr sb l e)) (hs h i (rr sb r e2) ++ L) t.av fun v h' => DQ sb h i (t, r, e2) (.ret v) h' :=
  Xa (Q := fun v h' => DQ sb h i (t, r, e2) (.ret v) h') (ZM _ _ _ _) (.keep (T.Qmu _ _)) ⟨rfl, rfl⟩
def stp (a : Nat) (c : UInt8) : Nat := 10 * a + (c.toNat - 48)
def intN : Nat := 2147483649
theorem Qkz {a d : Nat} (hd : d ≤ 9) : min (10 * (min a intN) + d) intN = min (10 * a + d) intN := by
  simp only [intN]; omega
end Go.Proofs.YtehjodmnajgdgaaGreatDoor.Ab
set_option maxRecDepth 4000
namespace Go.Proofs.YtehjodmnajgdgaaGreatDoor.Ab
open Go.Proofs
theorem Qju {sb : ByteArray} (hb : sb.size ≤ 1000000) {r : List UInt8} (hr : Suf sb r) {j : Nat} {q : List UInt8} {e : Int} {hx : AH} (g : hx[j]? = some (rr sb q e)) :
    Xf Tryz.prog 122 [.ptr j 0 0, .i (ps sb r : Nat)] hx fun o h' => o = .ret (.b (headD r)) ∧ h' = hx := by
  have := XM hb hr (QS g) q e []
  simp only [QeP g, Qnl] at this
  exact this
theorem Qk9 {P : Program} {N : Nat} {f : FuncId} {args : List AV} {s : AS} {d : Option Tmp} {K : AS → Prop} {r : AV} (H : ∀ hx, Keep s.h hx → Xf P f args hx fun o h' => o = .ret r ∧ h' = hx) (k : K (AS.put N s d r)) : Qlm P N (.fn (.func f) [] []) args s d K := ⟨r, fun hx hk => FunW.call (H hx hk), k⟩
abbrev zT0 : AB := .cells 24 4 [.agg [.i 0, .i 0, .v (.string { data := #[] }), .v (.slice none 0 0)]]
theorem Qk1 (P : Program) (t : TypeId) (xo yo : Operand) (c : UInt8) (h : 48 ≤ c.toNat) : pv P (do eqGuard .sub t xo yo (.int .u8 ((c.toNat : Nat) : Int)) (.int .u8 48); binOp .sub t (.int .u8 ((c.toNat : Nat) : Int)) (.int .u8 48)) = some (.int .u8 ((c.toNat - 48 : Nat) : Int)) := by
  have h2 : c.toNat < 256 := c.toNat_lt
  have e : IntKind.u8.wrap (((c.toNat : Nat) : Int) - 48) = ((c.toNat - 48 : Nat) : Int) := by
    have : ((c.toNat : Nat) : Int) - 48 = ((c.toNat - 48 : Nat) : Int) := by omega
    rw [this, IntKind.wrap]
    simp [IntKind.bits, IntKind.signed]
    omega
  have : pv P (do eqGuard .sub t xo yo (.int .u8 ((c.toNat : Nat) : Int)) (.int .u8 48); binOp .sub t (.int .u8 ((c.toNat : Nat) : Int)) (.int .u8 48)) = some (.int .u8 (IntKind.u8.wrap (((c.toNat : Nat) : Int) - 48))) := Zc _ _ _ _ _ _ _
  rw [this, e]
theorem Ql5 (n : Int) (hn : 0 ≤ n ∧ n < 256) : pv Tryz.prog (convert 5 3 (.int .u8 n)) = some (.int .i64 n) := by
  have : pv Tryz.prog (convert 5 3 (.int .u8 n)) = some (.int .i64 (IntKind.i64.wrap n)) := by kernel_rfl
  rw [this, YP (by omega)]
theorem QfW {sb : ByteArray} (hb : sb.size ≤ 1000000) (neg : Bool) (c : UInt8) (r : List UInt8) (hd : isD c = true) (hr : Suf sb (if neg then 45 :: c :: r else c :: r)) {h : AH} {j : Nat} (hj : j < h.length) :
    Xf Tryz.prog 134 [.ptr j 0 0] (hs h j (rr sb (if neg then 45 :: c :: r else c :: r) 0)) (DQ sb h j (rInt (if neg then -1 else 1) (c :: r))) := by
  have f1 := fun x => Xw h j x
  have f4 := fun x L => Yg (h := h) (i := j) x L
  have f6 := fun x y L => X5 (h := h) (i := j) x y L
  have hr2 : Suf sb (c :: r) := by
    cases neg with
    | true => exact hr.tail
    | false => exact hr
  have hw := Y4 hr2 hb
  have hcd : 48 ≤ c.toNat ∧ c.toNat ≤ 57 := by simpa [isD] using hd
  obtain ⟨sg, hsg⟩ : ∃ sg : Int, sg = if neg = true then -1 else 1 := ⟨_, rfl⟩
  have hsg2 : sg = 1 ∨ sg = -1 := by rw [hsg]; cases neg <;> simp
  refine Qe Tryz.func134 rfl Tryz.call134 Tryz.ntmps134 (congrArg Array.toList Tryz.results134) (by simp) ?_
  iterate 4 (try (first | (((with_reducible refine Qa fun K E hK hE => ?_)); simp -implicitDefEqProofs only [Qd, Qb, Qf, OpW, aop, AS.ev, Qc, Qn, AV.Qmr, Qo, Qnc, Qnd, Qs, Qu, QE, Qne, ↓reduceIte, Qm5, Qm6, Nat.reduceAdd, Nat.reduceLT, Qm4, zi24, f1]) | ((with_reducible refine hK _ ?_); clear hK)))
  refine Yt (fun s => s.tm 0 = .ptr j 0 0 ∧ s.tm 2 = .ptr h.length 0 0 ∧ s.tm 3 = .i sg ∧ s.h = hs h j (rr sb (c :: r) 0) ++ [zT0]) ?_ ?_
  · rintro ⟨tm, hp⟩ ⟨t0, t2, t3, hh⟩
    have hh := hh.symm
    dsimp only at t0 t2 t3 hh
    subst hh
    rw [← hsg]
    have f2 := Yh hj sb (c :: r) 0
    have hix := YU Tryz.prog 9 (by kernel_rfl) sb (ps sb (c :: r)) (Qcc hr2)
    rw [QaT hr2] at hix
    have cd : ∀ hx, Keep (hs h j (rr sb (c :: r) 0) ++ [zT0]) hx → Xf Tryz.prog 122 [.ptr j 0 0, .i (ps sb r : Nat)] hx fun o h' => o = .ret (.b (headD r)) ∧ h' = hx := fun hx k =>
      Qju hb hr2.tail (k j _ (Qbd hj _ _) (fun _ _ _ e => by cases e))
    have cf := (Y3 (s := sb) (c :: r) 16 j).app hj [zT0]
    by_cases h48 : c.toNat = 48 ∧ (sg < 0 ∨ headD r = true)
    · have e5 : rInt sg (c :: r) = (zT, c :: r, 16) := by rw [rInt, if_pos h48]
      rw [e5]
      have z1 : (((c.toNat : Nat) : Int) == 48) = true := by simp [h48.1]
      rcases hsg2 with rfl | rfl
      · have hh : headD r = true := by rcases h48.2 with h | h; omega; exact h
        rw [hh] at cd
        have z2 : ¬ (1 : Int) < 0 := by decide
        repeat (first | ((first | (with_reducible (first | refine Qa fun K E hK hE => ?_ | refine Qk9 cd ?_ | refine FunW.ret (FunW.call cf) ?_)) | (refine QP (id := 5) [(0, 0), (1, 0), (2, 0), (3, 0), (4, 0), (5, 0), (6, 0), (7, 0), (8, 0), (9, 0), (10, 0), (11, 0), (12, 0), (13, 0), (14, 0), (15, 0), (16, 0), (17, 0), (18, 0), (19, 0), (20, 0), (21, 0), (22, 0)] mixed (by kernel_rfl) fun K hK => ?_)); simp -implicitDefEqProofs only [Q1, QX, Q8, Qd, Qb, Qf, OpW, QQ, aop, undef, AS.ev, Qc, QL, Qn, Qg, AV.Qmr, Qo, QB, Qnc, Qnd, Qs, Qu, QI, Qne, ↓reduceIte, Qm5, Qm6, Nat.reduceAdd, Nat.reduceLT, Nat.reduceLeDiff, Nat.reduceEqDiff, Qm4, Qnh, Qnq, Ql, QG, QH, QW, QM, aBin, QmS, QmT, Qnm, QmU, QmX, QmV, Qm7, Qnb, QR, Q3, XK, Qnp, Qm0, QmW, T.Qmp, T.Qmq, ti3, ti9, ti24, Xm, Xl, QC, t0, t2, t3, f2, f4, f6, hix, z1, z2, hw]) | (with_reducible (first | refine Qi fun K hK => ?_ | refine Qm ?_ | refine QA ?_)) | ((with_reducible refine hK _ ?_); clear hK) | (refine Qk rfl ?_; simp only [↓reduceIte]))
        simp -implicitDefEqProofs only [Qg, ↓reduceIte, Qm5, Qm6, Nat.reduceAdd, Nat.reduceEqDiff, Qm4, Qnq, QG, QH, QmS, QmY, T.Qmp, T.Qmq, ti24, QG, QH, t2, f4, T.Qmp, T.Qmq, QN, Qp, Qw, Qm2]
        exact Zo
      · have z2 : (-1 : Int) < 0 := by decide
        repeat (first | ((first | (with_reducible (first | refine Qa fun K E hK hE => ?_ | refine FunW.ret (FunW.call cf) ?_)) | (refine QP (id := 5) [(0, 0), (1, 0), (2, 0), (3, 0), (4, 0), (5, 0), (6, 0), (7, 0), (8, 0), (9, 0), (10, 0), (11, 0), (12, 0), (13, 0), (14, 0), (15, 0), (16, 0), (17, 0), (18, 0), (19, 0), (20, 0), (21, 0), (22, 0)] mixed (by kernel_rfl) fun K hK => ?_)); simp -implicitDefEqProofs only [Q1, QX, Q8, Qd, Qb, Qf, OpW, QQ, aop, undef, AS.ev, Qc, QL, Qn, Qt, Qg, AV.Qmr, Qo, QB, Qnc, Qnd, Qs, Qu, QI, Qne, Qnf, ↓reduceIte, Qm5, Qm6, Nat.reduceAdd, Nat.reduceLT, Nat.reduceEqDiff, Qm4, Qnh, Qnq, Ql, QG, QH, QW, QM, aBin, QmS, QmT, Qnm, QmU, QmX, QmV, Qm7, Qnb, QR, Q3, Qno, Qm0, beq_false, T.Qmp, T.Qmq, ti3, ti9, ti24, Xm, Xl, QC, t0, t2, t3, f2, f4, f6, hix, z1, z2]) | (with_reducible (first | refine Qi fun K hK => ?_ | refine Qm ?_ | refine QA ?_)) | ((with_reducible refine hK _ ?_); clear hK) | (refine Qk rfl ?_; simp only [↓reduceIte]))
        simp -implicitDefEqProofs only [Qg, ↓reduceIte, Qm5, Qm6, Nat.reduceAdd, Nat.reduceEqDiff, Qm4, Qnq, QG, QH, QmS, QmY, T.Qmp, T.Qmq, ti24, QG, QH, t2, f4, T.Qmp, T.Qmq, QN, Qp, Qw, Qm2]
        exact Zo
    · refine Yt (fun s => s.tm 0 = .ptr j 0 0 ∧ s.tm 2 = .ptr h.length 0 0 ∧ s.tm 3 = .i sg ∧ s.h = hs h j (rr sb (c :: r) 0) ++ [zT0]) ?_ ?_
      · rintro ⟨tm, hp⟩ ⟨t0, t2, t3, hh⟩
        have hh := hh.symm
        dsimp only at t0 t2 t3 hh
        subst hh
        repeat (first | (((with_reducible refine Qa fun K E hK hE => ?_)); simp -implicitDefEqProofs only [Qd, Qb, Qf, OpW, aop, AS.ev, Qc, Qn, Nat.reduceLT]) | (with_reducible (first | refine Qi fun K hK => ?_ | refine Qq ?_)) | ((with_reducible refine hK _ ?_); clear hK))
        obtain ⟨I, hI⟩ : ∃ I : Nat → AS → Prop, I = fun m' s => ∃ (q : List UInt8) (a : Nat), m' = q.length ∧ Suf sb q ∧ q.dropWhile isD = (c :: r).dropWhile isD ∧ (q.takeWhile isD).foldl stp a = ZD ((c :: r).takeWhile isD) ∧ s.tm 0 = .ptr j 0 0 ∧ s.tm 2 = .ptr h.length 0 0 ∧ s.tm 3 = .i sg ∧ s.tm 4 = .i (min a intN : Nat) ∧ s.h = hs h j (rr sb q 0) ++ [zT0] := ⟨_, rfl⟩; refine XJ I ?_ (m := (c :: r).length) ?_
        · intro m' s hs; rw [hI] at hs; obtain ⟨tm, hp⟩ := s; dsimp only at hs; obtain ⟨q, a, rfl, hq, hdw, hnv, t0, t2, t3, t4, rfl⟩ := hs
          have f2 := Yh hj sb q 0
          have cd := XM hb hq hj q 0 [zT0]
          cases hh : headD q with
          | false =>
            rw [hh] at cd
            have e1 : q.takeWhile isD = [] ∧ q.dropWhile isD = q := by
              cases q with
              | nil => exact ⟨rfl, rfl⟩
              | cons d q =>
                have : isD d = false := hh
                rw [List.takeWhile_cons, List.dropWhile_cons, this]; exact ⟨rfl, rfl⟩
            rw [e1.1, List.foldl_nil] at hnv
            rw [e1.2] at hdw
            by_cases hle : a ≤ 2147483648
            · have e5 : rInt sg (c :: r) = (.mk 0 (sg * a) eB [], q, 0) := by rw [rInt, if_neg h48, ← hnv, ← hdw, if_pos hle]
              have em : min a intN = a := by simp only [intN]; omega
              rw [em] at t4
              have z1 : ¬ ((a : Nat) : Int) > 2147483648 := by omega
              have hmul : IntKind.i64.wrap (sg * (a : Int)) = sg * a := by
                rcases hsg2 with rfl | rfl
                · rw [YP (by omega)]
                · rw [YP (by omega)]
              repeat (first | ((first | (with_reducible (first | refine Qa fun K E hK hE => ?_ | refine FunW.ret (FunW.call cd) ?_))); simp -implicitDefEqProofs only [Qd, Qb, Qf, OpW, QQ, aop, undef, AS.ev, Qc, QL, Qn, Qg, AV.Qmr, Qo, QT, QB, Qnc, Qnd, Qs, Qu, QE, Qne, ↓reduceIte, Qm5, Qm6, Nat.reduceAdd, Nat.reduceLT, Nat.reduceLeDiff, Nat.reduceEqDiff, Qm4, Qnq, Ql, QG, QH, QW, QM, aBin, Xn, XE, QmS, QmT, Qnm, QmU, Qm7, Qnb, Qnk, Qnj, Qm3, Qna, Qm1, Qm9, Xr, Qhr, Qnp, ti3, ti24, zi24, sp24, Xl, QC, t0, t2, t3, t4, f2, f4, f6, z1, hmul]) | (with_reducible (first | refine Qi fun K hK => ?_ | refine Qm ?_ | refine QD ?_ | refine Xb ?_ | refine Qj ?_ | refine Q5 ?_ | refine Q4 ?_)) | ((with_reducible refine hK _ ?_); clear hK) | (clear hK; (with_reducible refine hK _ ?_); clear hK) | (refine Qk rfl ?_; simp only [↓reduceIte, QmW]))
              simp -implicitDefEqProofs only [Qg, Qo, QB, ↓reduceIte, Qm5, Qm6, Nat.reduceAdd, Nat.reduceEqDiff, Qm4, Qnq, QG, QH, QmS, QmY, ti24, QG, QH, t2, f4, QN, Qp, Qw, Qm2]
              rw [e5]
              exact Xa (r := .agg [.i 0, .i (sg * a), .v (.string { data := #[] }), .v (.slice none 0 0)]) (r' := (T.mk 0 (sg * a) eB []).av) (Q := fun v h' => DQ sb h j (.mk 0 (sg * a) eB [], q, 0) (.ret v) h') (ZM _ _ _ _) (.agg rfl (Xd (.keep (.v _)) (Xd (.keep (.v _)) (Xd (.keep (.v _)) (XS (.nil 4)))))) ⟨rfl, rfl⟩
            · have e5 : rInt sg (c :: r) = (zT, q, 5) := by rw [rInt, if_neg h48, ← hnv, ← hdw, if_neg hle]
              have em : min a intN = 2147483649 := by simp only [intN]; omega
              rw [em] at t4
              have z1 : ((2147483649 : Nat) : Int) > 2147483648 := by decide
              have cf := (Y3 (s := sb) q 5 j).app hj [zT0]
              repeat (first | ((first | (with_reducible (first | refine Qa fun K E hK hE => ?_ | refine FunW.ret (FunW.call cd) ?_ | refine FunW.ret (FunW.call cf) ?_))); simp -implicitDefEqProofs only [Qd, Qb, Qf, OpW, QQ, aop, undef, AS.ev, Qc, QL, Qn, Qg, AV.Qmr, Qo, QB, Qnc, Qnd, Qs, Qu, QI, Qne, ↓reduceIte, Qm5, Qm6, Nat.reduceAdd, Nat.reduceLT, Nat.reduceEqDiff, Qm4, Qnq, Ql, QG, QH, QW, QM, aBin, QmS, QmT, Qnm, QmU, Qm7, Qnb, Xr, Qno, T.Qmp, T.Qmq, ti3, ti24, Xl, QC, t0, t2, t4, f2, f4, f6, z1]) | (with_reducible (first | refine Qi fun K hK => ?_ | refine Qm ?_ | refine Xb ?_ | refine Qj ?_ | refine QA ?_ | refine Q5 ?_ | refine Q4 ?_)) | ((with_reducible refine hK _ ?_); clear hK) | (clear hK; (with_reducible refine hK _ ?_); clear hK) | (refine Qk rfl ?_; simp only [↓reduceIte, QmW]))
              simp -implicitDefEqProofs only [Qg, ↓reduceIte, Qm5, Qm6, Nat.reduceAdd, Nat.reduceEqDiff, Qm4, Qnq, QG, QH, QmS, QmY, T.Qmp, T.Qmq, ti24, QG, QH, t2, f4, T.Qmp, T.Qmq, QN, Qp, Qw, Qm2]
              rw [e5]
              exact Zo
          | true =>
            rw [hh] at cd
            cases q with
            | nil => cases hh
            | cons d q =>
              have hdd : isD d = true := hh
              have hd9 : 48 ≤ d.toNat ∧ d.toNat ≤ 57 := by simpa [isD] using hdd
              have hix := YU Tryz.prog 9 (by kernel_rfl) sb (ps sb (d :: q)) (Qcc hq)
              rw [QaT hq] at hix
              have hw := Y4 hq hb
              have f3 := fun r2 e2 => Y0 hj sb (d :: q) 0 r2 e2
              have us := fun xo yo => Qk1 Tryz.prog 5 xo yo d hd9.1
              have uc := Ql5 ((d.toNat - 48 : Nat) : Int) (by omega)
              have hml : min a intN ≤ 2147483649 := by simp only [intN]; omega
              generalize hX : min a intN = X at *
              have m1 : IntKind.i64.wrap (10 * ((X : Nat) : Int)) = ((10 * X : Nat) : Int) := by rw [YP (by omega)]; omega
              have m2 : IntKind.i64.wrap (((10 * X : Nat) : Int) + ((d.toNat - 48 : Nat) : Int)) = ((10 * X + (d.toNat - 48) : Nat) : Int) := by rw [YP (by omega)]; omega
              have m3 : (if (2147483649 : Int) < ((10 * X + (d.toNat - 48) : Nat) : Int) then (2147483649 : Int) else ((10 * X + (d.toNat - 48) : Nat) : Int)) = ((min (10 * X + (d.toNat - 48)) intN : Nat) : Int) := by
                simp only [intN]; split <;> omega
              repeat (first | ((first | (with_reducible (first | refine Qa fun K E hK hE => ?_ | refine Qr fun K E hK hE => ?_ | refine FunW.ret (FunW.call cd) ?_)) | (refine QP (id := 9) [(0, 0), (1, 0), (2, 0), (3, 0), (4, 0), (5, 0), (6, 0), (7, 0), (8, 0), (9, 0), (10, 0), (11, 0), (12, 0), (13, 0), (14, 0), (15, 0)] mixed (by kernel_rfl) fun K hK => ?_)); simp -implicitDefEqProofs only [Q1, QX, Q8, Qd, Qb, Qf, OpW, QQ, aop, undef, AS.ev, Qc, QL, Qn, Qg, AV.Qmr, Qo, QT, QB, Q7, Qnc, Qnd, Qs, Qne, ↓reduceIte, Qm5, Qm6, Nat.reduceAdd, Nat.reduceLT, Nat.reduceLeDiff, Nat.reduceEqDiff, Qm4, Qnh, Qnq, Ql, QG, QH, QW, QM, aBin, QmS, QmT, Qnm, QmU, QmV, Qm7, Qnb, Qnk, Qnj, Qm3, Qna, Qm1, Qm9, XK, Qhr, QfM, QmW, ti3, ti9, Xm, Xl, QC, t0, t4, f2, f3, hix, us, uc, m1, m2, m3, hw]) | (with_reducible (first | refine Qi fun K hK => ?_ | refine Qq ?_ | refine QD ?_ | refine Qj ?_ | refine QF ?_)) | ((with_reducible refine hK _ ?_); clear hK) | (refine Qk rfl ?_; simp only [↓reduceIte]))
              refine Yo.mk (m' := q.length) (by simp) ?_
              rw [hI]
              refine ⟨q, stp a d, rfl, hq.tail, ?_, ?_, t0, t2, t3, ?_, rfl⟩
              · rw [← hdw, List.dropWhile_cons, hdd]; rfl
              · rw [← hnv, List.takeWhile_cons, hdd]; rfl
              · have e9 : min (stp a d) intN = min (10 * X + (d.toNat - 48)) intN := by rw [stp, ← Qkz (by omega), hX]
                rw [e9]; rfl
        · rw [hI]
          refine ⟨c :: r, 0, rfl, hr2, rfl, rfl, t0, t2, t3, rfl, rfl⟩
      · by_cases e48 : c.toNat = 48
        · have z1 : (((c.toNat : Nat) : Int) == 48) = true := by simp [e48]
          have hh : ¬ sg < 0 ∧ headD r = false := ⟨fun h => h48 ⟨e48, .inl h⟩, by cases h : headD r with | true => exact absurd ⟨e48, .inr h⟩ h48 | false => rfl⟩
          rw [hh.2] at cd
          have z2 := hh.1
          repeat (first | ((first | (with_reducible refine Qk9 cd ?_) | (refine QP (id := 5) [(0, 0), (1, 0), (2, 0), (3, 0), (4, 0), (5, 0), (6, 0), (7, 0), (8, 0), (9, 0), (10, 0), (11, 0), (12, 0), (13, 0), (14, 0), (15, 0), (16, 0), (17, 0), (18, 0), (19, 0), (20, 0), (21, 0), (22, 0)] mixed (by kernel_rfl) fun K hK => ?_)); simp -implicitDefEqProofs only [Q1, QX, Q8, Qf, aop, AS.ev, Qc, Qn, Qg, Qo, ↓reduceIte, Nat.reduceLT, Nat.reduceLeDiff, Nat.reduceEqDiff, Qm4, Qnh, Ql, QG, QH, aBin, QmS, QmT, QmU, QmX, QmV, Qm7, Qnb, QR, Q3, XK, Qnp, Qm0, QmW, ti3, ti9, Xm, Xl, QC, t0, t3, f2, hix, z1, z2, hw]) | (with_reducible (first | refine QD ?_ | refine Qj ?_)) | ((with_reducible refine hK _ ?_); clear hK) | (refine Qk rfl ?_; simp only [↓reduceIte, QmW]))
          exact ⟨t0, t2, t3, rfl⟩
        · have z1 : (((c.toNat : Nat) : Int) == 48) = false := by simp; omega
          repeat (first | (((refine QP (id := 5) [(0, 0), (1, 0), (2, 0), (3, 0), (4, 0), (5, 0), (6, 0), (7, 0), (8, 0), (9, 0), (10, 0), (11, 0), (12, 0), (13, 0), (14, 0), (15, 0), (16, 0), (17, 0), (18, 0), (19, 0), (20, 0), (21, 0), (22, 0)] mixed (by kernel_rfl) fun K hK => ?_)); simp -implicitDefEqProofs only [Q1, QX, Q8, Qf, aop, undef, AS.ev, Qc, Qn, Qt, Qg, Qo, ↓reduceIte, Nat.reduceLT, Nat.reduceEqDiff, Qm4, Qnh, Ql, QG, QH, aBin, QmS, QmT, QmU, QmX, QmV, QR, QmW, beq_true, ti3, ti9, Xm, Xl, QC, t0, f2, hix, z1]) | (with_reducible (first | refine QD ?_ | refine Qj ?_)) | ((with_reducible refine hK _ ?_); clear hK) | (refine Qk rfl ?_; simp only [↓reduceIte, QmW]))
          exact ⟨t0, t2, t3, rfl⟩
  · cases neg with
    | true =>
      obtain rfl : sg = -1 := hsg
      have hr0 : Suf sb (45 :: c :: r) := hr
      have f2 := Yh hj sb (45 :: c :: r) 0
      have f3 := fun r2 e2 => Y0 hj sb (45 :: c :: r) 0 r2 e2
      have hix := YU Tryz.prog 9 (by kernel_rfl) sb (ps sb (45 :: c :: r)) (Qcc hr0)
      rw [QaT hr0] at hix
      have hw0 := Y4 hr0 hb
      have z1 : ((((45 : UInt8).toNat : Nat) : Int) == 45) = true := by decide
      repeat (first | ((first | (with_reducible (first | refine Qa fun K E hK hE => ?_ | refine Qr fun K E hK hE => ?_)) | (refine QP (id := 2) [(0, 0), (1, 0), (2, 0), (3, 0), (4, 0), (5, 0), (6, 0), (7, 0), (8, 0), (9, 0)] mixed (by kernel_rfl) fun K hK => ?_)); simp -implicitDefEqProofs only [Q1, QX, Q8, Qd, Qb, Qf, OpW, aop, undef, AS.ev, Qc, QL, Qn, Qg, Qv, QmZ, AV.Qmr, Qo, QT, QB, Q7, Qnc, Qnd, Qs, Qne, ↓reduceIte, Qm5, Qm6, Nat.reduceAdd, Nat.reduceLT, Nat.reduceLeDiff, Nat.reduceEqDiff, Qm4, Qnh, Qnq, Ql, QG, QH, QW, QM, aBin, QmS, QmT, Qnm, QmU, QmV, Qnk, Qnj, Qm3, Qna, Qm1, Qm9, QR, XK, QmW, ti3, ti9, Xm, Xl, QC, f2, f3, hix, z1, hw0]) | (with_reducible refine Qj ?_) | ((with_reducible refine hK _ ?_); clear hK) | (refine Qk rfl ?_; simp only [↓reduceIte]))
      exact ⟨rfl, rfl, rfl, rfl⟩
    | false =>
      obtain rfl : sg = 1 := hsg
      have f2 := Yh hj sb (c :: r) 0
      have hix := YU Tryz.prog 9 (by kernel_rfl) sb (ps sb (c :: r)) (Qcc hr2)
      rw [QaT hr2] at hix
      have z1 : (((c.toNat : Nat) : Int) == 45) = false := by simp; omega
      repeat (first | (((refine QP (id := 2) [(0, 0), (1, 0), (2, 0), (3, 0), (4, 0), (5, 0), (6, 0), (7, 0), (8, 0), (9, 0)] mixed (by kernel_rfl) fun K hK => ?_)); simp -implicitDefEqProofs only [Q1, QX, Q8, Qf, aop, undef, AS.ev, Qc, Qn, Qg, Qv, QmZ, Qo, ↓reduceIte, Nat.reduceLT, Nat.reduceEqDiff, Qm4, Qnh, Ql, QG, QH, aBin, QmS, QmT, QmU, QmV, QR, QmW, ti3, ti9, Xm, Xl, QC, f2, hix, z1]) | (with_reducible (first | refine QD ?_ | refine Qj ?_)) | ((with_reducible refine hK _ ?_); clear hK) | (refine Qk rfl ?_; simp only [↓reduceIte, QmW]))
      exact ⟨rfl, rfl, rfl, rfl⟩
end Go.Proofs.YtehjodmnajgdgaaGreatDoor.Ab
set_option maxRecDepth 4000
namespace Go.Proofs.YtehjodmnajgdgaaGreatDoor.Ab
open Go.Proofs
theorem QiX (i : Int) : Pure Tryz.prog 95 [.i i] (T.mk 1 i eB []).av := by
  intro h
  refine Qe Tryz.func95 rfl Tryz.call95 Tryz.ntmps95 (congrArg Array.toList Tryz.results95) (by simp) ?_
  repeat (first | (((with_reducible refine Qa fun K E hK hE => ?_)); simp -implicitDefEqProofs only [Qd, Qb, Qf, OpW, aop, undef, AS.ev, Qc, QL, Qn, Qg, Qv, QmZ, AV.Qmr, Qo, QT, QB, Qnc, Qnd, Qs, Qu, QE, Qne, ↓reduceIte, Qm5, Qm6, Nat.reduceAdd, Nat.reduceLT, Nat.reduceLeDiff, Nat.reduceEqDiff, Qm4, Qnq, QW, QM, Xn, XE, Q0, Ym, QmS, QmT, Qnm, QmU, Qm7, Qnb, Qnk, Qnj, Qm3, Qna, Qm1, Qm9, ti24, zi24, sp24]) | (with_reducible refine Qm ?_) | ((with_reducible refine hK _ ?_); clear hK))
  simp -implicitDefEqProofs only [Qg, Qo, QB, ↓reduceIte, Qm5, Qm6, Nat.reduceAdd, Nat.reduceEqDiff, Qm4, Qnq, Q0, QmS, QmY, ti24, QG, QH, Q0, QN, Qp, Qw, Qm2]
  refine Qh (r' := (T.mk 1 i eB []).av) (htake _ _) ?_ ⟨rfl, rfl⟩
  exact .agg rfl (Xd (.keep (.v _)) (Xd (.keep (.v _)) (Xd (.keep (.v _)) (XS (.nil 4)))))
theorem QfK (i : Int) : Pure Tryz.prog 148 [.i i] (T.mk 0 i eB []).av := by
  intro h
  refine Qe Tryz.func148 rfl Tryz.call148 Tryz.ntmps148 (congrArg Array.toList Tryz.results148) (by simp) ?_
  repeat (first | (((with_reducible refine Qa fun K E hK hE => ?_)); simp -implicitDefEqProofs only [Qd, Qb, Qf, OpW, aop, undef, AS.ev, Qc, QL, Qn, Qg, Qv, QmZ, AV.Qmr, Qo, QT, QB, Qnc, Qnd, Qs, Qu, QE, Qne, ↓reduceIte, Qm5, Qm6, Nat.reduceAdd, Nat.reduceLT, Nat.reduceLeDiff, Nat.reduceEqDiff, Qm4, Qnq, QW, QM, Xn, XE, Q0, Ym, QmS, QmT, Qnm, QmU, Qm7, Qnb, Qnk, Qnj, Qm3, Qna, Qm1, Qm9, ti24, zi24, sp24]) | (with_reducible refine Qm ?_) | ((with_reducible refine hK _ ?_); clear hK))
  simp -implicitDefEqProofs only [Qg, Qo, QB, ↓reduceIte, Qm5, Qm6, Nat.reduceAdd, Nat.reduceEqDiff, Qm4, Qnq, Q0, QmS, QmY, ti24, QG, QH, Q0, QN, Qp, Qw, Qm2]
  refine Qh (r' := (T.mk 0 i eB []).av) (htake _ _) ?_ ⟨rfl, rfl⟩
  exact .agg rfl (Xd (.keep (.v _)) (Xd (.keep (.v _)) (Xd (.keep (.v _)) (XS (.nil 4)))))
theorem QjW : ∀ (l : List UInt8) (a : Nat), a ≤ l.foldl (fun n c => 10 * n + (c.toNat - 48)) a
  | [], a => Nat.le_refl _
  | c :: l, a => by
    rw [List.foldl_cons]
    exact Nat.le_trans (by omega) (QjW l _)
theorem Qf9 : ∀ (l : List UInt8) (a : Nat), (∀ c ∈ l, isD c = true) → Lib.parseUint10 a l = .ok (l.foldl (fun n c => 10 * n + (c.toNat - 48)) a) ∨ (Lib.parseUint10 a l = .range ∧ 18446744073709551616 ≤ l.foldl (fun n c => 10 * n + (c.toNat - 48)) a)
  | [], a, _ => .inl rfl
  | c :: l, a, h => by
    have hc : isD c = true := h c (by simp)
    simp only [isD, decide_eq_true_eq] at hc
    rw [Lib.parseUint10, if_pos hc, List.foldl_cons]
    have hg := QjW l (10 * a + (c.toNat - 48))
    by_cases h1 : 1844674407370955162 ≤ a
    · rw [if_pos h1]; exact .inr ⟨rfl, by omega⟩
    · rw [if_neg h1]
      by_cases h2 : 18446744073709551616 ≤ a * 10 + (c.toNat - 48)
      · rw [if_pos h2]; exact .inr ⟨rfl, by omega⟩
      · rw [if_neg h2, show a * 10 + (c.toNat - 48) = 10 * a + (c.toNat - 48) by omega]
        exact Qf9 l _ fun d hd => h d (by simp [hd])
theorem QkT {l : List UInt8} (hne : l ≠ []) (h : ∀ c ∈ l, isD c = true) : (Lib.atoiAll l = .ok (ZD l : Nat) ∧ ZD l < 9223372036854775808) ∨ (Lib.atoiAll l = .range ∧ 9223372036854775808 ≤ ZD l) := by
  match l, hne with
  | c :: r, _ =>
    have hc : isD c = true := h c (by simp)
    simp only [isD, decide_eq_true_eq] at hc
    rw [Lib.atoiAll_plain c r (by omega) (by omega), Lib.parseMag, if_neg (by simp)]
    rcases Qf9 (c :: r) 0 h with e | ⟨e, hb⟩
    · rw [e]
      simp only [Lib.signless]
      by_cases hb : 9223372036854775808 ≤ ZD (c :: r)
      · exact .inr ⟨if_pos hb, hb⟩
      · exact .inl ⟨if_neg hb, by omega⟩
    · rw [e]
      exact .inr ⟨rfl, by unfold ZD; omega⟩
theorem Qmc (p : UInt8 → Bool) (l : List UInt8) : ∀ c ∈ l.takeWhile p, p c = true := fun c hc => by
  induction l with
  | nil => cases hc
  | cons d l ih =>
    rw [List.takeWhile_cons] at hc
    cases hp : p d with
    | false => rw [hp] at hc; cases hc
    | true =>
      rw [hp] at hc
      rcases List.mem_cons.1 hc with rfl | hc
      · exact hp
      · exact ih hc
def RQ (h : AH) (i : Nat) : Res T → AOut → AH → Prop
  | .ok t r, o, h' => o = .ret t.av ∧ h' = hs h i (rd r)
  | .err e, o, h' => o = .panic (Err e) ∧ ∃ r, h' = hs h i (rd r)
theorem Qha (xo : Operand) : pv Tryz.prog (do eqGuard .eql 63 xo (.const .nilIface) .nilIface .nilIface; binOp .eql 63 .nilIface .nilIface) = some (.bool true) := by
  cases xo <;> kernel_rfl
theorem Qgh (n : Nat) (t : T) : Below n t.av := t.Qmu n
theorem QcF (sign : Int) (hsg : sign = 1 ∨ sign = -1) (l : List UInt8) (hd : headD l = true) (hl : l.length ≤ 1000000) {h : AH} {i : Nat} (hi : i < h.length) (hT : Tabs (hs h i (rd l))) :
    Xf Tryz.prog 133 [.ptr i 0 0, .i sign] (hs h i (rd l)) (RQ h i (pInt false sign l)) := by
  have f1 := Xw h i
  have f2 := Qai hi
  have f2' := Qll hi
  have f3 := Qcv hi
  have f4 := fun x L => Yg (h := h) (i := i) x L
  have f6 := fun x y L => X5 (h := h) (i := i) x y L
  match l, hd with
  | c :: r, hd =>
    have hd : isD c = true := hd
    have hix := Zp Tryz.prog 9 (by kernel_rfl) (mkB (c :: r)) (by rw [XX]; simp)
    rw [Qci _ 0 (by simp)] at hix
    rw [pInt]
    by_cases h48 : c.toNat = 48
    · have z1 : ((((c :: r)[0]).toNat : Nat) : Int) == 48 := by simp [h48]
      rw [if_pos h48]
      rcases hsg with rfl | rfl
      · rw [if_neg (by simp)]
        have cm := Qad 16
        have ci := QfK 0
        have hp := QkP c r
        have z2 : (1 : Int) > 0 := by decide
        refine Qe Tryz.func133 rfl Tryz.call133 Tryz.ntmps133 (congrArg Array.toList Tryz.results133) (by simp) ?_
        repeat (first | ((first | (with_reducible (first | refine Qa fun K E hK hE => ?_ | refine Qz cm ?_ | refine Qz ci ?_))); simp -implicitDefEqProofs only [Qd, Qb, Qf, OpW, QQ, aop, undef, AS.ev, Qc, QL, Qn, Qg, Qv, QmZ, Qni, AV.Qmr, Qo, QT, QB, Q7, Qnc, Qnd, Qs, Qu, QE, QI, Qne, ↓reduceIte, Qm5, Qm6, Nat.reduceAdd, Nat.reduceLT, Nat.reduceEqDiff, Qm4, Qnh, Qnq, Ql, QG, QH, QW, QM, aBin, YF, QmS, Qnm, QmU, Qnx, Qm7, Qnb, QR, Xr, Qno, T.Qmp, T.Qmq, ti9, ei9, ti24, zi24, Yb, QC, f1, f2, f3, f4, f6, hix, z1, z2, hp]) | (with_reducible (first | refine Qi fun K hK => ?_ | refine Qm ?_ | refine QA ?_)) | ((with_reducible refine hK _ ?_); clear hK) | (refine Qk rfl ?_; simp only [↓reduceIte]))
        simp -implicitDefEqProofs only [Qg, ↓reduceIte, Qm5, Qm6, Nat.reduceAdd, Nat.reduceEqDiff, Qm4, Qnq, QG, QH, QmS, QmY, T.Qmp, T.Qmq, ti24, f4, QN, Qp, Qw, Qm2]
        exact Xa (Zr _ _) (.keep (Qgh _ _)) ⟨rfl, rfl⟩
      · rw [if_pos (by simp)]
        have cm := fun h => QbR 16 h
        have z2 : ¬ (-1 : Int) > 0 := by decide
        refine Qe Tryz.func133 rfl Tryz.call133 Tryz.ntmps133 (congrArg Array.toList Tryz.results133) (by simp) ?_
        repeat (first | ((first | (with_reducible (first | refine Qa fun K E hK hE => ?_ | refine FunW.pan (FunW.call (cm _)) ?_))); simp -implicitDefEqProofs only [Qd, Qb, Qf, OpW, QQ, aop, undef, AS.ev, Qc, Qn, Qg, Qv, QmZ, Qni, AV.Qmr, Qo, QT, Qnc, Qnd, Qs, Qu, QE, Qne, ↓reduceIte, Qm5, Qm6, Nat.reduceAdd, Nat.reduceLT, Nat.reduceEqDiff, Qm4, Qnh, Ql, QG, QH, aBin, QmS, QmU, Qm7, Qnb, QR, Xr, Qnp, ti9, zi24, Yb, QC, f1, f2, hix, z1, z2]) | (with_reducible refine Qi fun K hK => ?_) | ((with_reducible refine hK _ ?_); clear hK) | (refine Qk rfl ?_; simp only [↓reduceIte]) | (with_reducible (first | refine hE _ _ ?_ | refine XY ?_)))
        exact Xa (Zr _ _) (.keep (Qam _ _)) ⟨rfl, _, rfl⟩
    · have z1 : (((((c :: r)[0]).toNat : Nat) : Int) == 48) = false := by simp; omega
      rw [if_neg h48]
      have hT' := fun L => (hT.rds hi ((c :: r).dropWhile isD)).app L
      have cr := fun L => Qje hi Qao (c :: r) hl L
      have hwl := QlY isD (c :: r)
      have hds := Qmc isD (c :: r)
      have hne : (c :: r).takeWhile isD ≠ [] := by rw [List.takeWhile_cons, hd]; simp
      have hsz : (mkB ((c :: r).takeWhile isD)).size ≤ 1000000 := by rw [XX]; omega
      have hat := QkT hne hds
      generalize hw : (c :: r).takeWhile isD = w at *
      generalize hr : (c :: r).dropWhile isD = r2 at *
      have hmul : ∀ n : Nat, n ≤ 2147483648 → IntKind.i64.wrap (sign * (n : Int)) = sign * n := fun n hn => by
        rcases hsg with rfl | rfl
        · rw [YP (by omega)]
        · rw [YP (by omega)]
      by_cases hle : ZD w ≤ 2147483648
      · rw [if_pos hle]
        rcases hat with ⟨ha, hb⟩ | ⟨ha, hb⟩
        · have ca := Qe1 (mkB w) hsz (ZD w : Nat) (by rw [QbD]; exact ha)
          have z3 : ((ZD w : Nat) : Int) ≤ 2147483648 := by omega
          have cm := Qad 5
          have ci := QfK (sign * (ZD w : Nat))
          have hw1 := hmul _ hle
          have hn := Qha
          refine Qe Tryz.func133 rfl Tryz.call133 Tryz.ntmps133 (congrArg Array.toList Tryz.results133) (by simp) ?_
          repeat (first | ((first | (with_reducible (first | refine Qa fun K E hK hE => ?_ | refine Qz cm ?_ | refine Qz ci ?_ | refine Qz ca ?_ | refine FunW.ret (FunW.call (cr _)) ?_))); simp -implicitDefEqProofs only [Qd, Qb, Qf, OpW, QQ, aop, undef, AS.ev, Qc, QL, Qn, Xh, Qg, Qv, QmZ, Qni, AV.Qmr, Qo, QT, QB, Qnc, Qnd, Qs, Qu, QE, QI, Qne, ↓reduceIte, Qm5, Qm6, Nat.reduceAdd, Nat.reduceLT, Nat.reduceEqDiff, Qm4, Qnh, Qnq, Ql, QG, QH, QW, QM, aBin, Xs, QmS, QmT, Qnm, QmU, QmX, QmV, Qm7, Qnb, QR, Q9, Qhr, Qno, Qm0, T.Qmp, T.Qmq, ti9, ti24, zi24, Yb, QC, f1, f2, f4, f6, hix, z1, z3, hn, hw1]) | (with_reducible (first | refine Qi fun K hK => ?_ | refine Qm ?_ | refine QD ?_ | refine Qj ?_)) | ((with_reducible refine hK _ ?_); clear hK) | (refine Qk rfl ?_; simp only [↓reduceIte, QmW]))
          simp -implicitDefEqProofs only [Qg, ↓reduceIte, Qm5, Qm6, Nat.reduceAdd, Nat.reduceEqDiff, Qm4, Qnq, QG, QH, QmS, QmY, T.Qmp, T.Qmq, ti24, f4, QN, Qp, Qw, Qm2]
          exact Xa (Zr _ _) (.keep (Qgh _ _)) ⟨rfl, rfl⟩
        · omega
      · rw [if_neg hle]
        have cm := fun h => QbR 5 h
        rcases hat with ⟨ha, hb⟩ | ⟨ha, hb⟩
        · have ca := Qe1 (mkB w) hsz (ZD w : Nat) (by rw [QbD]; exact ha)
          have z3 : ¬ ((ZD w : Nat) : Int) ≤ 2147483648 := by omega
          have hn := Qha
          refine Qe Tryz.func133 rfl Tryz.call133 Tryz.ntmps133 (congrArg Array.toList Tryz.results133) (by simp) ?_
          repeat (first | ((first | (with_reducible (first | refine Qa fun K E hK hE => ?_ | refine Qz ca ?_ | refine FunW.ret (FunW.call (cr _)) ?_ | refine FunW.pan (FunW.call (cm _)) ?_))); simp -implicitDefEqProofs only [Qd, Qb, Qf, OpW, QQ, aop, undef, AS.ev, Qc, Qn, Xh, Qg, Qv, QmZ, AV.Qmr, Qo, QT, Qnc, Qnd, Qs, Qu, QE, Qne, ↓reduceIte, Qm5, Qm6, Nat.reduceAdd, Nat.reduceLT, Nat.reduceEqDiff, Qm4, Qnh, Ql, QG, QH, aBin, Xs, QmS, QmT, QmU, QmX, QmV, Qm7, Qnb, QR, Q9, Qnp, Qm0, ti9, zi24, Yb, QC, f1, f2, hix, z1, z3, hn]) | (with_reducible (first | refine Qi fun K hK => ?_ | refine QD ?_ | refine Qj ?_)) | ((with_reducible refine hK _ ?_); clear hK) | (refine Qk rfl ?_; simp only [↓reduceIte, QmW]) | (with_reducible refine hE _ _ ?_))
          exact Xa (Zr _ _) (.keep (Qam _ _)) ⟨rfl, _, rfl⟩
        · obtain ⟨v, ca⟩ : ∃ v, ∀ L, Xf Tryz.prog 119 [.v (.string (mkB w))] (hs h i (rd r2) ++ L) fun o h' => o = .ret (.tup [.i v, .ifc 148 .junk]) ∧ h' = hs h i (rd r2) ++ L :=
            ⟨Lib.atoiSat w, fun L => Qky (mkB w) hsz (by rw [QbD]; exact ha) _ (hT' L).2⟩
          have hn : ∀ H, notNil Tryz.prog 63 H (.ifc 148 .junk) .nilIface = true := fun H => by kernel_rfl
          refine Qe Tryz.func133 rfl Tryz.call133 Tryz.ntmps133 (congrArg Array.toList Tryz.results133) (by simp) ?_
          repeat (first | ((first | (with_reducible (first | refine Qa fun K E hK hE => ?_ | refine FunW.ret (FunW.call (ca _)) ?_ | refine FunW.ret (FunW.call (cr _)) ?_ | refine FunW.pan (FunW.call (cm _)) ?_))); simp -implicitDefEqProofs only [Qd, Qb, Qf, OpW, QQ, aop, undef, AS.ev, Qc, Qn, Qt, Xh, Qg, Qv, QmZ, AV.Qmr, Qo, QT, Qnc, Qnd, Qs, Qu, QE, Qne, ↓reduceIte, Qm5, Qm6, Nat.reduceAdd, Nat.reduceLT, Nat.reduceEqDiff, Qm4, Qnh, Ql, QG, QH, aBin, Xs, QmS, QmT, QmU, QmX, QmV, Qm7, Qnb, QR, QmW, beq_true, ti9, zi24, Yb, QC, f1, f2, hix, z1, hn]) | (with_reducible (first | refine Qi fun K hK => ?_ | refine QD ?_ | refine Qj ?_)) | ((with_reducible refine hK _ ?_); clear hK) | (refine Qk rfl ?_; simp only [↓reduceIte, QmW]) | (with_reducible refine hE _ _ ?_))
          exact Xa (Zr _ _) (.keep (Qam _ _)) ⟨rfl, _, rfl⟩
end Go.Proofs.YtehjodmnajgdgaaGreatDoor.Ab
set_option maxRecDepth 4000
namespace Go.Proofs.YtehjodmnajgdgaaGreatDoor.Ab
open Go.Proofs
def Rdr (f : FuncId) (g : List UInt8 → Res T) (N : Nat) : Prop := ∀ l : List UInt8, l.length < N → ∀ (h : AH) (i : Nat), i < h.length → Tabs (hs h i (rd l)) → Xf Tryz.prog f [.ptr i 0 0] (hs h i (rd l)) (RQ h i (g l))
theorem Rdr.ok {f : FuncId} {g : List UInt8 → Res T} {N : Nat} (H : Rdr f g N) {l : List UInt8} (hl : l.length < N) {h : AH} {i : Nat} (hi : i < h.length) (hT : Tabs (hs h i (rd l))) (L : AH) {t : T} {r : List UInt8} (e : g l = .ok t r) :
    Xf Tryz.prog f [.ptr i 0 0] (hs h i (rd l) ++ L) fun o h' => o = .ret t.av ∧ h' = hs h i (rd r) ++ L := by
  have := H l hl (h ++ L) i (by rw [List.length_append]; omega) (by rw [X4 hi]; exact hT.app L)
  rw [X4 hi, e] at this
  exact this.mono fun o h' q => by simpa only [RQ, X4 hi] using q
theorem Rdr.err {f : FuncId} {g : List UInt8 → Res T} {N : Nat} (H : Rdr f g N) {l : List UInt8} (hl : l.length < N) {h : AH} {i : Nat} (hi : i < h.length) (hT : Tabs (hs h i (rd l))) (L : AH) {n : Int} (e : g l = .err n) :
    Xf Tryz.prog f [.ptr i 0 0] (hs h i (rd l) ++ L) fun o h' => o = .panic (Err n) ∧ ∃ r, h' = hs h i (rd r) ++ L := by
  have := H l hl (h ++ L) i (by rw [List.length_append]; omega) (by rw [X4 hi]; exact hT.app L)
  rw [X4 hi, e] at this
  exact this.mono fun o h' q => by simpa only [RQ, X4 hi] using q
theorem FunW.meth {P : Program} {f : FuncId} {x : AV} {h : AH} {Q : AOut → AH → Prop} (H : Xf P f [x] h Q) : FunW P (.fn (.func f) [x] []) [] h Q := FunW.fn H
theorem Qio (s : ByteArray) (t u : T) : Pure Tryz.prog 96 [.v (.string s), .sl 4 [t.av, u.av] none] (T.mk 2 0 s [t, u]).av := by
  intro h
  refine Qe Tryz.func96 rfl Tryz.call96 Tryz.ntmps96 (congrArg Array.toList Tryz.results96) (by simp) ?_
  repeat (first | (((with_reducible refine Qa fun K E hK hE => ?_)); simp -implicitDefEqProofs only [Qd, Qb, Qf, OpW, aop, undef, AS.ev, Qc, QL, Qn, Qg, Qv, QmZ, Qni, AV.Qmr, Qo, QT, Xv, QB, Qnc, Qnd, Qs, Qu, QE, QI, Qne, ↓reduceIte, Qm5, Qm6, Nat.reduceAdd, Nat.reduceLT, Nat.reduceLeDiff, Nat.reduceEqDiff, Qm4, Qnq, QW, QM, Xn, XE, Q0, Ym, QmS, QmT, Qnm, QmU, Qm7, Qnb, Qnk, Qnj, Qnl, Qm3, Qna, Qm1, Qm9, ti24, zi24, sp24]) | (with_reducible refine Qm ?_) | ((with_reducible refine hK _ ?_); clear hK))
  simp -implicitDefEqProofs only [Qg, Qo, QB, ↓reduceIte, Qm5, Qm6, Nat.reduceAdd, Nat.reduceEqDiff, Qm4, Qnq, Q0, QmS, QmY, ti24, QG, QH, Q0, QN, Qp, Qw, Qm2]
  exact Qh (htake _ _) (.keep (T.Qmu _ (T.mk 2 0 s [t, u]))) ⟨rfl, rfl⟩
theorem Qmj : pv Tryz.prog (Instr.sliceAt 9 (.string (mkB [])) none (some (.int .i64 0)) none) = some (.string (mkB [])) := by
  have := Qbs Tryz.prog 9 (by kernel_rfl) (mkB []) none (some (.i64, 0)) 0 0 ⟨by omega, by rw [XX]; simp, by omega⟩ rfl
  rw [Qd3] at this
  exact this
theorem Qmo (c : UInt8) (r : List UInt8) : pv Tryz.prog (Instr.sliceAt 9 (.string (mkB (c :: r))) none (some (.int .i64 1)) none) = some (.string (mkB [c])) := by
  have := Qbs Tryz.prog 9 (by kernel_rfl) (mkB (c :: r)) none (some (.i64, 1)) 0 1 ⟨by omega, by rw [XX]; simp; omega, by omega⟩ rfl
  rw [Qd3] at this
  exact this
theorem QlF : ofB (mkB []) = 0 := by kernel_rfl
theorem Qd8 (h : AH) (i : Nat) (l r : List UInt8) (t : T) (L : AH) : Leaves (hs h i (rd l)) (hs h i (rd r) ++ L) t.av fun v h' => RQ h i (.ok t r) (.ret v) h' :=
  Xa (Q := fun v h' => RQ h i (.ok t r) (.ret v) h') (Zr _ _) (.keep (T.Qmu _ _)) ⟨rfl, rfl⟩
theorem ZR (h : AH) (i : Nat) (l r : List UInt8) (e : Int) (L : AH) : Leaves (hs h i (rd l)) (hs h i (rd r) ++ L) (Err e) fun v h' => RQ h i (.err e) (.panic v) h' :=
  Xa (Q := fun v h' => RQ h i (.err e) (.panic v) h') (Zr _ _) (.keep (Qam _ _)) ⟨rfl, _, rfl⟩
theorem Qbn {g : FuncId} {op : List UInt8 → Res T} {N : Nat} (H : Rdr g op N) (hEat : Eats 0 op) (st : Int) (hst : st ≠ 0) (hN : N ≤ 1000000) (l : List UInt8) (hl : l.length < N) (h : AH) (i : Nat) (hi : i < h.length) (hT : Tabs (hs h i (rd l))) :
    Xf Tryz.prog 86 [.ptr i 0 0, .i st, .fn (.func g) [.ptr i 0 0] []] (hs h i (rd l)) (RQ h i (chain op st l)) := by
  have f1 := Xw h i
  have f2 := Qai hi
  have f2' := Qll hi
  have f3 := Qcv hi
  have f4 := fun x L => Yg (h := h) (i := i) x L
  have f5 := fun x L k => Qaa (h := h) (i := i) x L k
  have f6 := fun x y L => X5 (h := h) (i := i) x y L
  have f7 := fun x y L k => YQ (h := h) (i := i) x y L k
  rw [chain]
  cases hop : op l with
  | err n =>
    have c1 := fun L => H.err hl hi hT L hop
    refine Qe Tryz.func86 rfl Tryz.call86 Tryz.ntmps86 (congrArg Array.toList Tryz.results86) (by simp) ?_
    repeat (first | ((first | (with_reducible (first | refine Qa fun K E hK hE => ?_ | refine FunW.panE (FunW.meth (c1 _)) fun r => ?_))); simp -implicitDefEqProofs only [Qd, Qb, Qf, OpW, QQ, aop, undef, AS.ev, Qc, Qg, Qv, QmZ, Qni, AV.Qmr, Qo, Qnc, Qnd, Qs, Qu, QE, Qne, ↓reduceIte, Qm5, Qm6, Nat.reduceAdd, Nat.reduceLT, Nat.reduceEqDiff, Qm4, Qnb, zi24, f1]) | ((with_reducible refine hK _ ?_); clear hK) | (with_reducible refine hE _ _ ?_))
    exact ZR _ _ _ _ _ _
  | ok t r =>
    have c1 := fun L => H.ok hl hi hT L hop
    have hr := hEat l t r hop
    simp only
    generalize hC : YT op st (r.length + 1) t r = C
    refine Qe Tryz.func86 rfl Tryz.call86 Tryz.ntmps86 (congrArg Array.toList Tryz.results86) (by simp) ?_
    repeat (first | ((first | (with_reducible (first | refine Qa fun K E hK hE => ?_ | refine FunW.ret (FunW.meth (c1 _)) ?_))); simp -implicitDefEqProofs only [Qd, Qb, Qf, OpW, QQ, aop, undef, AS.ev, Qc, QL, Qg, Qv, QmZ, Qni, AV.Qmr, Qo, QB, Qnc, Qnd, Qs, Qu, QE, QI, Qne, ↓reduceIte, Qm5, Qm6, Nat.reduceAdd, Nat.reduceLT, Nat.reduceEqDiff, Qm4, Qnq, QW, QM, hlen, happ, QmS, QmT, Qnm, Qnn, QmU, Qnb, Qnk, Qnj, T.Qmp, T.Qmq, ti24, zi24, f1, f5, f7]) | (with_reducible refine Qq ?_) | ((with_reducible refine hK _ ?_); clear hK))
    have hz : (T.mk 0 0 eB []).av = .agg [.i 0, .i 0, .v (.string eB), .sl 4 [] none] := rfl
    obtain ⟨I, hI⟩ : ∃ I : Nat → AS → Prop, I = fun m' s => ∃ (t : T) (r : List UInt8), m' = r.length ∧ r.length < N ∧ YT op st (r.length + 1) t r = C ∧ s.tm 0 = .ptr i 0 0 ∧ s.tm 1 = .i st ∧ s.tm 2 = .fn (.func g) [.ptr i 0 0] [] ∧ s.tm 6 = .ptr h.length 0 0 ∧ s.tm 7 = .ptr (h.length + 1) 0 0 ∧ s.h = hs h i (rd r) ++ [.cells 24 4 [.agg [.i 0, .i 0, .v (.string { data := #[] }), .v (.slice none 0 0)]], .cells 24 4 [t.av]] := ⟨_, rfl⟩; refine XJ I ?_ (m := r.length) ?_
    · intro m' s hs; rw [hI] at hs; obtain ⟨tm, hp⟩ := s; dsimp only at hs; obtain ⟨t, r, rfl, hrN, hC, t0, t1, t2, t6, t7, rfl⟩ := hs
      have cs := Qcq hi r [.cells 24 4 [.agg [.i 0, .i 0, .v (.string { data := #[] }), .v (.slice none 0 0)]], .cells 24 4 [t.av]]
      have hsl := fun b => Yf Tryz.prog 9 3 (by kernel_rfl) b
      rw [YT] at hC
      cases hsk : QV r with
      | nil =>
        rw [hsk] at hC cs
        subst hC
        have co := Qck (mkB [])
        rw [QlF] at co
        have z1 : ((0 : Int) != st) = true := by simpa using fun e => hst e.symm
        have hh := Qmj
        have z2 : (0 : Int) < 1 := by decide
        have z3 : (((0 : Nat) : Int) < 1) := by decide
        repeat (first | ((first | (with_reducible (first | refine Qa fun K E hK hE => ?_ | refine FunW.ret (FunW.call cs) ?_ | refine Qz co ?_)) | (refine QP (id := 3) [(0, 0), (1, 0), (2, 0), (3, 0), (4, 0), (5, 0), (6, 0), (7, 0), (8, 0), (9, 0), (10, 0), (11, 0)] mixed (by kernel_rfl) fun K hK => ?_)); simp -implicitDefEqProofs only [Q1, QX, Q8, Qd, Qb, Qf, OpW, QQ, aop, undef, AS.ev, Qc, QL, Qn, Qg, AV.Qmr, Qo, QT, QB, Qnc, Qnd, Qs, Qu, QI, Qne, ↓reduceIte, Qm5, Qm6, Nat.reduceAdd, Nat.reduceLT, Nat.reduceEqDiff, Qm4, Qnh, Qnq, Ql, QG, QH, QW, QM, aBin, YF, aLen, QmS, QmT, Qnm, QmU, Qnx, QmV, Qm7, Qnb, Q2, QfM, goInt, QnE, T.Qmp, T.Qmq, ti9, ei9, ti24, Yb, QC, t0, t1, t6, t7, f2, f4, f5, f6, hsl, XX, hh, z1, z2]) | (with_reducible (first | refine Qi fun K hK => ?_ | refine Qq ?_ | refine Qm ?_ | refine QA ?_ | refine QJ ?_)) | ((with_reducible refine hK _ ?_); clear hK) | (refine Qk rfl ?_; simp only [↓reduceIte]))
        simp -implicitDefEqProofs only [Qg, ↓reduceIte, Qm5, Qm6, Nat.reduceAdd, Nat.reduceEqDiff, Qm4, Qnq, QG, QH, QmS, QmY, T.Qmp, T.Qmq, ti24, t6, f4, T.Qmp, T.Qmq, QN, Qp, Qw, Qm2]
        exact Qd8 _ _ _ _ _ _
      | cons c r2 =>
        rw [hsk] at hC cs
        simp only at hC
        have hlt := Xe hsk
        have co := Qck (mkB [c])
        have hh := Qmo c r2
        have z2 : ¬ (((r2.length + 1 : Nat) : Int) < 1) := by omega
        have hp := QkP c r2
        by_cases ho : ofB (mkB [c]) = st
        · rw [if_pos ho] at hC
          rw [ho] at co
          have z1 : (st != st) = false := by simp
          cases hop2 : op r2 with
          | err n =>
            rw [hop2] at hC
            simp only at hC
            subst hC
            repeat (first | ((first | (with_reducible (first | refine Qa fun K E hK hE => ?_ | refine FunW.ret (FunW.call cs) ?_ | refine Qz co ?_)) | (refine QP (id := 3) [(0, 0), (1, 0), (2, 0), (3, 0), (4, 0), (5, 0), (6, 0), (7, 0), (8, 0), (9, 0), (10, 0), (11, 0)] mixed (by kernel_rfl) fun K hK => ?_)); simp -implicitDefEqProofs only [Q1, QX, Q8, Qd, Qb, Qf, OpW, QQ, aop, undef, AS.ev, Qc, QL, Qn, Qg, AV.Qmr, QT, Q7, Qnc, Qnd, Qu, Qne, ↓reduceIte, Qm5, Qm6, Nat.reduceLT, Nat.reduceEqDiff, Qm4, Qnh, Qnq, Ql, QG, QH, QW, QM, aBin, YF, aLen, QmS, QmT, Qnm, QmU, Qnx, QmV, Qm7, Qnb, Q2, QfM, goInt, QnD, ti9, ei9, Yb, QC, t0, t1, f2, f3, hsl, XX, hh, hp, z2]) | (with_reducible (first | refine Qi fun K hK => ?_ | refine Qq ?_ | refine QD ?_ | refine Qj ?_)) | ((with_reducible refine hK _ ?_); clear hK) | (refine Qk rfl ?_; simp only [↓reduceIte, QmW]))
            have c2 := fun L => H.err (by omega) hi ((hT.rds hi r2)) L hop2
            refine QcW 3 [(0, 1), (1, 0), (2, 1)] mixed rfl rfl rfl (by kernel_rfl) (fun v h' => v = Err n ∧ ∃ x, h' = hs h i (rd x) ++ [.cells 24 4 [.agg [.i 0, .i 0, .v (.string { data := #[] }), .v (.slice none 0 0)]], .cells 24 4 [t.av]]) ?_ ?_
            · rintro tm v h' ⟨rfl, x, rfl⟩
              exact ZR _ _ _ _ _ _
            · simp -implicitDefEqProofs only [Q1, QX, Q8, Qf, aop, AS.ev, Qc, Qg, ↓reduceIte, Qm5, Qm6, Nat.reduceAdd, Nat.reduceLT, Nat.reduceEqDiff, Qm4, Qnq, QG, QH, QmS, QmT, QmU, QmV, Qnb, T.Qmp, T.Qmq, ti24, t2, t7, f5, T.Qmp, T.Qmq]
              exact fun _ => (FunW.meth (c2 _)).mono (by rintro _ _ ⟨rfl, x, rfl⟩; exact ⟨_, rfl, rfl, x, rfl⟩)
          | ok u r3 =>
            rw [hop2] at hC
            repeat (first | ((first | (with_reducible (first | refine Qa fun K E hK hE => ?_ | refine FunW.ret (FunW.call cs) ?_ | refine Qz co ?_)) | (refine QP (id := 3) [(0, 0), (1, 0), (2, 0), (3, 0), (4, 0), (5, 0), (6, 0), (7, 0), (8, 0), (9, 0), (10, 0), (11, 0)] mixed (by kernel_rfl) fun K hK => ?_)); simp -implicitDefEqProofs only [Q1, QX, Q8, Qd, Qb, Qf, OpW, QQ, aop, undef, AS.ev, Qc, QL, Qn, Qg, AV.Qmr, QT, Q7, Qnc, Qnd, Qu, Qne, ↓reduceIte, Qm5, Qm6, Nat.reduceLT, Nat.reduceEqDiff, Qm4, Qnh, Qnq, Ql, QG, QH, QW, QM, aBin, YF, aLen, QmS, QmT, Qnm, QmU, Qnx, QmV, Qm7, Qnb, Q2, QfM, goInt, QnD, ti9, ei9, Yb, QC, t0, t1, f2, f3, hsl, XX, hh, hp, z2]) | (with_reducible (first | refine Qi fun K hK => ?_ | refine Qq ?_ | refine QD ?_ | refine Qj ?_)) | ((with_reducible refine hK _ ?_); clear hK) | (refine Qk rfl ?_; simp only [↓reduceIte, QmW]))
            have hr3 := hEat r2 u r3 hop2
            have c2 := fun L => H.ok (by omega) hi ((hT.rds hi r2)) L hop2
            have cf := Qio (mkB [c]) t u
            refine ZT 1 3 [(0, 1), (2, 1)] [(1, 0), (3, 2), (4, 1), (5, 1), (6, 2)] [(3, 2), (1, 0), (4, 1), (5, 1), (6, 2)] mixed rfl (by kernel_rfl) (by kernel_rfl) (by kernel_rfl) (by kernel_rfl) (by kernel_rfl) (by kernel_rfl) fun K hK => ?_
            simp -implicitDefEqProofs only [Q1, QX, Q8, Qf, aop, AS.ev, Qc, Qg, ↓reduceIte, Qm5, Qm6, Nat.reduceAdd, Nat.reduceLT, Nat.reduceLeDiff, Nat.reduceEqDiff, Qm4, Qnq, QG, QH, QmS, QmT, QmU, QmV, Qnb, T.Qmp, T.Qmq, ti24, t2, t7, f5]
            simp only at hC
            have hfu := QgJ hEat st r3.length r.length (r3.length + 1) (.mk 2 0 (mkB [c]) [t, u]) r3 (Nat.le_refl _) (by omega) (by omega)
            rw [hfu] at hC
            refine ⟨?_, ?_⟩
            · refine XB (FunW.meth (c2 _)) YX ?_
              simp -implicitDefEqProofs only [QX, Q8, Qf, aop, AS.ev, Qc, Qg, AV.Qmr, Qo, Qnc, Qnd, Qs, Qu, QE, QI, Qne, ↓reduceIte, Qm5, Qm6, Nat.reduceAdd, Nat.reduceLT, Nat.reduceLeDiff, Nat.reduceEqDiff, Nat.reduceMul, Qm4, Qnq, Q6, QmS, QmT, QmV, Qm7, Qnb, Qm0, rng2, Xk, Nat.reducePow, T.Qmp, ei22, zi24, T.Qmp]
              repeat (first | (((with_reducible refine QZ cf ?_)); simp -implicitDefEqProofs only [Q1, QX, Q8, Qf, aop, undef, AS.ev, Qc, QL, Qg, AV.Qmr, Qnc, Qnd, Qs, Qu, QI, Qne, ↓reduceIte, Qm5, Qm6, Nat.reduceAdd, Nat.reduceLT, Nat.reduceEqDiff, Qm4, Qnq, QW, QM, QmS, QmT, Qnm, Qnn, QmU, QmV, T.Qmp, T.Qmq, ti24, t7, f5, f7, T.Qmp, T.Qmq]) | (with_reducible (first | refine Qj ?_ | refine QF ?_)) | ((with_reducible refine hK _ ?_); clear hK))
              refine Yo.mk (m' := r3.length) (by omega) ?_
              rw [hI]
              exact ⟨.mk 2 0 (mkB [c]) [t, u], r3, rfl, by omega, hC, t0, t1, t2, t6, t7, rfl⟩
            · refine XB (FunW.meth (c2 _)) YX ?_
              simp -implicitDefEqProofs only [QX, Q8, Qf, aop, AS.ev, Qc, Qg, AV.Qmr, Qo, Qnc, Qnd, Qs, Qu, QE, QI, Qne, ↓reduceIte, Qm5, Qm6, Nat.reduceAdd, Nat.reduceLT, Nat.reduceLeDiff, Nat.reduceEqDiff, Nat.reduceMul, Qm4, Qnq, QG, QH, Q6, QmS, QmT, QmU, QmV, Qm7, Qnb, Qm0, rng2, Xk, Nat.reducePow, T.Qmp, T.Qmq, ei22, ti24, zi24, t7, f5, T.Qmp, T.Qmq]
              repeat (first | (((with_reducible refine QZ cf ?_)); simp -implicitDefEqProofs only [Q1, QX, Q8, Qf, aop, undef, AS.ev, Qc, QL, Qg, AV.Qmr, Qnc, Qnd, Qs, Qu, QI, Qne, ↓reduceIte, Qm5, Qm6, Nat.reduceAdd, Nat.reduceLT, Nat.reduceEqDiff, Qm4, Qnq, QW, QM, QmS, QmT, Qnm, Qnn, QmU, QmV, T.Qmp, T.Qmq, ti24, t7, f5, f7, T.Qmp, T.Qmq]) | (with_reducible (first | refine Qj ?_ | refine QF ?_)) | ((with_reducible refine hK _ ?_); clear hK))
              refine Yo.mk (m' := r3.length) (by omega) ?_
              rw [hI]
              exact ⟨.mk 2 0 (mkB [c]) [t, u], r3, rfl, by omega, hC, t0, t1, t2, t6, t7, rfl⟩
        · rw [if_neg ho] at hC
          subst hC
          have z1 : (ofB (mkB [c]) != st) = true := by simpa using ho
          repeat (first | ((first | (with_reducible (first | refine Qa fun K E hK hE => ?_ | refine FunW.ret (FunW.call cs) ?_ | refine Qz co ?_)) | (refine QP (id := 3) [(0, 0), (1, 0), (2, 0), (3, 0), (4, 0), (5, 0), (6, 0), (7, 0), (8, 0), (9, 0), (10, 0), (11, 0)] mixed (by kernel_rfl) fun K hK => ?_)); simp -implicitDefEqProofs only [Q1, QX, Q8, Qd, Qb, Qf, OpW, QQ, aop, undef, AS.ev, Qc, QL, Qn, Qg, AV.Qmr, Qo, QT, QB, Qnc, Qnd, Qs, Qu, QI, Qne, ↓reduceIte, Qm5, Qm6, Nat.reduceAdd, Nat.reduceLT, Nat.reduceEqDiff, Qm4, Qnh, Qnq, Ql, QG, QH, QW, QM, aBin, YF, aLen, QmS, QmT, Qnm, QmU, Qnx, QmV, Qm7, Qnb, Q2, QfM, goInt, T.Qmp, T.Qmq, ti9, ei9, ti24, Yb, QC, t0, t1, t6, t7, f2, f4, f5, f6, hsl, XX, hh, z1, z2]) | (with_reducible (first | refine Qi fun K hK => ?_ | refine Qq ?_ | refine Qm ?_ | refine QA ?_ | refine QJ ?_)) | ((with_reducible refine hK _ ?_); clear hK) | (refine Qk rfl ?_; simp only [↓reduceIte]))
          simp -implicitDefEqProofs only [Qg, ↓reduceIte, Qm5, Qm6, Nat.reduceAdd, Nat.reduceEqDiff, Qm4, Qnq, QG, QH, QmS, QmY, T.Qmp, T.Qmq, ti24, t6, f4, T.Qmp, T.Qmq, QN, Qp, Qw, Qm2]
          exact Qd8 _ _ _ _ _ _
    · rw [hI]
      exact ⟨t, r, rfl, by omega, hC, rfl, rfl, rfl, rfl, rfl, rfl⟩
end Go.Proofs.YtehjodmnajgdgaaGreatDoor.Ab
set_option maxRecDepth 4000
namespace Go.Proofs.YtehjodmnajgdgaaGreatDoor.Ab
open Go.Proofs
def QcE : List UInt8 → List UInt8
  | [] => []
  | c :: r => (if c.toNat = 40 ∨ c.toNat = 41 then [32, c, 32, 32] else if c.toNat = 44 then [32, c] else [c]) ++ QcE r
def Lo (l l' : List UInt8) : Prop := QV l' = QV (QcE l)
theorem QbZ (r : List UInt8) : QV (32 :: r) = QV r := by rw [QV, if_pos (by decide)]
theorem QaJ : ∀ r, QV (QV r) = QV r
  | [] => rfl
  | c :: r => by
    rw [QV]; split
    · exact QaJ r
    · rename_i h; rw [QV, if_neg h]
theorem Lo.skip {l l' : List UInt8} (h : Lo l l') : Lo l (QV l') := by rw [Lo, QaJ]; exact h
theorem Qbq : ∀ l : List UInt8, QV (QcE l) = QV (QcE (QV l))
  | [] => rfl
  | c :: r => by
    by_cases h : c.toNat = 32
    · rw [QV, if_pos h, QcE, if_neg (by omega), if_neg (by omega), List.singleton_append, QV, if_pos h]
      exact Qbq r
    · rw [QV, if_neg h]
theorem Lo.left {l l' : List UInt8} (h : Lo l l') : Lo (QV l) l' := by rw [Lo, ← Qbq]; exact h
theorem QgT {r r2 : List UInt8} {c : UInt8} (h : QV r = c :: r2) : c.toNat ≠ 32 := by
  induction r with
  | nil => cases h
  | cons d r ih =>
    rw [QV] at h
    split at h
    · exact ih h
    · rename_i hd; cases h; exact hd
theorem Lo.nil {l l' : List UInt8} (h : Lo l l') (hs : QV l = []) : QV l' = [] := by
  rw [Lo, Qbq, hs] at h; exact h
theorem Lo.cons {l l' r : List UInt8} {c : UInt8} (h : Lo l l') (hs : QV l = c :: r) : ∃ r', QV l' = c :: r' ∧ Lo r r' ∧ (c.toNat ≠ 40 → c.toNat ≠ 41 → r' = QcE r) := by
  have hc := QgT hs
  rw [Lo, Qbq, hs, QcE] at h
  by_cases h1 : c.toNat = 40 ∨ c.toNat = 41
  · rw [if_pos h1] at h
    simp only [Qnk, Qnj] at h
    rw [QbZ, QV, if_neg hc] at h
    refine ⟨_, h, ?_, fun a b => by omega⟩
    rw [Lo, QbZ, QbZ]
  · rw [if_neg h1] at h
    by_cases h2 : c.toNat = 44
    · rw [if_pos h2] at h
      simp only [Qnk, Qnj] at h
      rw [QbZ, QV, if_neg hc] at h
      exact ⟨_, h, rfl, fun _ _ => rfl⟩
    · rw [if_neg h2] at h
      simp only [Qnk, Qnj] at h
      rw [QV, if_neg hc] at h
      exact ⟨_, h, rfl, fun _ _ => rfl⟩
theorem Lo.refl (r : List UInt8) : Lo r (QcE r) := rfl
def LoR {α : Type} : Res α → Res α → Prop
  | .ok a r, .ok b r' => a = b ∧ Lo r r'
  | .err e, .err e' => e = e'
  | _, _ => False
theorem LoR.ok {α : Type} {a : α} {r : List UInt8} {y : Res α} (h : LoR (.ok a r) y) : ∃ r', y = .ok a r' ∧ Lo r r' := by
  cases y with
  | err e => exact h.elim
  | ok b r' => obtain ⟨rfl, h⟩ := h; exact ⟨r', rfl, h⟩
theorem LoR.err {α : Type} {e : Int} {y : Res α} (h : LoR (.err e) y) : y = .err e := by
  cases y with
  | ok b r' => exact h.elim
  | err e' => have h : e = e' := h; subst h; rfl
end Go.Proofs.YtehjodmnajgdgaaGreatDoor.Ab
