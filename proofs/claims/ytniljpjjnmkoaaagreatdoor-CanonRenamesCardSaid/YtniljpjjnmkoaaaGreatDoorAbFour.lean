/-
  An abstract program logic, contracts of functions, and laws of terms and rules (part 4).
-/
import Derived.Test.YtniljpjjnmkoaaaGreatDoorAbTwo
import Derived.Test.YtniljpjjnmkoaaaGreatDoorAbThree
import Derived.ProofKit
import Derived.WalkKit
import Derived.OpenShut
import Derived.LaidSub
import Derived.Lib.LaidTab
import Derived.Lib.Strings
set_option linter.unusedVariables false
set_option linter.unusedSimpArgs false
set_option maxHeartbeats 4000000
set_option maxRecDepth 4000
namespace Go.Proofs.YtniljpjjnmkoaaaGreatDoor.Ab
open Go.Proofs
def Yv (s : ByteArray) : Bool := decide (QbK 1 s) && !resB s
def Y8 (s : ByteArray) : Bool := s.toList == ({ data := #[] } : ByteArray).toList
mutual
def T.run : T → Int → Int → Bool × Int
 | .mk k i n l, b, d =>
  if b - 1 < 0 ∨ d < 1 then (false, b - 1) else
  if k = 0 then (decide (-2147483648 ≤ i ∧ i ≤ 2147483648) && Y8 n && l.isEmpty, b - 1) else
  if k = 1 then (decide (0 ≤ i ∧ i ≤ 1048576) && Y8 n && l.isEmpty, b - 1) else
  if k = 2 then (if i ≠ 0 ∨ 6 < l.length then (false, b - 1) else if (!Yv n && !(opB n && decide (l.length = 2))) = true then (false, b - 1) else runL l (b - 1) (d - 1)) else (false, b - 1)
def runL : List T → Int → Int → Bool × Int
 | [], b, d => (true, b)
 | t :: l, b, d => if (t.run b d).1 = true then runL l (t.run b d).2 d else (false, (t.run b d).2)
end
theorem T.run_eq (t : T) (b d : Int) : t.run b d = if b - 1 < 0 ∨ d < 1 then (false, b - 1) else
  if t.kind = 0 then (decide (-2147483648 ≤ t.int ∧ t.int ≤ 2147483648) && Y8 t.name && t.args.isEmpty, b - 1) else
  if t.kind = 1 then (decide (0 ≤ t.int ∧ t.int ≤ 1048576) && Y8 t.name && t.args.isEmpty, b - 1) else
  if t.kind = 2 then (if t.int ≠ 0 ∨ 6 < t.args.length then (false, b - 1) else if (!Yv t.name && !(opB t.name && decide (t.args.length = 2))) = true then (false, b - 1) else runL t.args (b - 1) (d - 1)) else (false, b - 1) := by
 cases t; rw [T.run]; rfl
theorem QjK {l : List T} {k : Nat} (h : k < l.length) (b d : Int) : runL (l.drop k) b d = if ((l[k]).run b d).1 = true then runL (l.drop (k + 1)) ((l[k]).run b d).2 d else (false, ((l[k]).run b d).2) := by
 rw [List.drop_eq_getElem_cons h]; simp only [runL]
def bud (b : Int) : AB := .cells 106 1 [.agg [.i b]]
theorem QkA (d : Int) (ih : ∀ (t : T) (b : Int) (i : Nat), -1 ≤ b → b ≤ 1000 → Chg Tryz.prog 98 [.ptr i 0 0, t.av, .i d] i (bud b) (.b (t.run b d).1) (bud (t.run b d).2))
  (l : List T) (hl : l.length ≤ 1000) (b : Int) (i : Nat) (hb : -1 ≤ b ∧ b ≤ 1000) (hr : ∀ (t : T) (b : Int), -1 ≤ b ∧ b ≤ 1000 → (t.run b d).1 = true → -1 ≤ (t.run b d).2 ∧ (t.run b d).2 ≤ 1000) :
  Chg Tryz.prog 70 [.ptr i 0 0, .sl 4 (avs l) none, .i d] i (bud b) (.b (runL l b d).1) (bud (runL l b d).2) := by
 intro h hi
 have f1 := fun x => Zw h i x
 refine Qh Tryz.func70 rfl Tryz.call70 Tryz.ntmps70 (congrArg Array.toList Tryz.results70) (by simp) ?_
 repeat (first | (((with_reducible refine Qa fun K E hK hE => ?_)); simp -implicitDefEqProofs only [Qe, Qf, OpW, aop, undef, AS.ev, Qv, ↓reduceIte, aLen, goInt, un29, seval]) | (with_reducible (first | refine Qd fun K hK => ?_ | refine Qi ?_)) | ((with_reducible refine hK _ ?_); clear hK))
 obtain ⟨I, hI⟩ : ∃ I : Nat → AS → Prop, I = fun m' s => ∃ (k : Nat) (b' : Int), m' = l.length - k ∧ k ≤ l.length ∧ (-1 ≤ b' ∧ b' ≤ 1000) ∧ runL l b d = runL (l.drop k) b' d ∧ s.tm 0 = .ptr i 0 0 ∧ s.tm 1 = .sl 4 (avs l) none ∧ s.tm 2 = .i d ∧ s.tm 9 = .i l.length ∧ s.tm 10 = .i k ∧ s.h = hs h i (bud b') := ⟨_, rfl⟩; refine QI I ?_ (m := l.length) ?_
 ·intro m' s hs; rw [hI] at hs; obtain ⟨tm, hp⟩ := s; dsimp only at hs; obtain ⟨k, b', rfl, hk, hb', he, t0, t1, t2, t9, t10, rfl⟩ := hs
  by_cases hlt : k < l.length
  ·have hg := Q3 hlt
   have c := ih l[k] b' i hb'.1 hb'.2 h hi
   rw [QjK hlt] at he
   cases hr1 : ((l[k]).run b' d).1 with
   | true =>
    rw [hr1] at c he
    repeat (first | ((first | (with_reducible (first | refine Qa fun K E hK hE => ?_ | refine Qk fun K E hK hE => ?_ | refine FunW.ret (FunW.call c) ?_))); simp -implicitDefEqProofs only [Qe, Qf, OpW, QK, aop, AS.ev, ↓reduceIte, QA, QB, Qt, aBin, ei29, ti41, t0, t1, t2, t9, t10, hlt, hg, seval]) | (with_reducible (first | refine Qd fun K hK => ?_ | refine Qi ?_ | refine Qn ?_ | refine Qb ?_ | refine Qo ?_)) | ((with_reducible refine hK _ ?_); clear hK) | (refine Qg rfl ?_; simp only [↓reduceIte, QpQ]))
    refine QV.mk (m' := l.length - (k + 1)) (by omega) ?_
    rw [hI]
    refine ⟨k + 1, _, rfl, hlt, hr _ _ hb' hr1, by rw [he, if_pos rfl], t0, t1, t2, t9, ?_, rfl⟩
    simp only [upd, ↓reduceIte]
    rw [QP (by omega)]
   | false =>
    rw [hr1] at c he
    rw [if_neg (by simp)] at he
    repeat (first | ((first | (with_reducible (first | refine Qa fun K E hK hE => ?_ | refine FunW.ret (FunW.call c) ?_))); simp -implicitDefEqProofs only [Qe, Qf, OpW, QK, aop, AS.ev, ↓reduceIte, QA, QB, Qt, aBin, ei29, ti41, t0, t1, t2, t9, t10, hlt, hg, seval]) | (with_reducible (first | refine Qd fun K hK => ?_ | refine Qi ?_ | refine Qj ?_ | refine Qn ?_ | refine Qb ?_ | refine Qq ?_ | refine Qs ?_)) | ((with_reducible refine hK _ ?_); clear hK) | (refine Qg rfl ?_; simp only [↓reduceIte]))
    simp only [QD, Ql, Qr, upd, ↓reduceIte, QpS, QpW]
    rw [he]
    exact .inr ⟨rfl, rfl⟩
  ·have hkn : k = l.length := by omega
   subst hkn
   rw [List.drop_length] at he
   repeat (first | (((with_reducible refine Qa fun K E hK hE => ?_)); simp -implicitDefEqProofs only [Qe, Qf, OpW, aop, AS.ev, Nat.reduceLT, aBin, t9, t10, hlt]) | (with_reducible (first | refine Qd fun K hK => ?_ | refine Qj ?_ | refine QC ?_ | refine Qb ?_ | refine Qw ?_ | refine Qy ?_)) | ((with_reducible refine hK _ ?_); clear hK) | (clear hK; (with_reducible refine hK _ ?_); clear hK) | (refine Qg rfl ?_; simp only [↓reduceIte, QpQ]))
   simp only [QD, Ql, Qr, upd, ↓reduceIte, QpS, QpW]
   rw [he]
   exact .inr ⟨rfl, rfl⟩
 ·rw [hI]
  exact ⟨0, b, rfl, by omega, hb, rfl, rfl, rfl, rfl, rfl, rfl, rfl⟩
mutual
theorem T.Qpd : ∀ (t : T) (b d : Int), -1 ≤ b ∧ b ≤ 1000 → (t.run b d).1 = true → -1 ≤ (t.run b d).2 ∧ (t.run b d).2 ≤ 1000
 | .mk k i n l, b, d, hb, h => by
  rw [T.run] at h ⊢
  split at h
  ·cases h
  rename_i hn
  rw [if_neg hn]
  split at h
  ·rename_i hk; rw [if_pos hk]; exact ⟨by simp only; omega, by simp only; omega⟩
  rename_i hk; rw [if_neg hk]
  split at h
  ·rename_i hk; rw [if_pos hk]; exact ⟨by simp only; omega, by simp only; omega⟩
  rename_i hk; rw [if_neg hk]
  split at h
  ·rename_i hk2
   rw [if_pos hk2]
   split at h
   ·cases h
   rename_i hk; rw [if_neg hk]
   split at h
   ·cases h
   rename_i hk; rw [if_neg hk]
   exact Qe6 l _ _ (by omega) h
  ·cases h
theorem Qe6 : ∀ (l : List T) (b d : Int), -1 ≤ b ∧ b ≤ 1000 → (runL l b d).1 = true → -1 ≤ (runL l b d).2 ∧ (runL l b d).2 ≤ 1000
 | [], b, d, hb, h => by simpa only [runL] using hb
 | t :: l, b, d, hb, h => by
  rw [runL] at h ⊢
  split at h
  ·rename_i ht
   rw [if_pos ht]
   exact Qe6 l _ _ (T.Qpd t b d hb ht) h
  ·cases h
end
theorem Xm (n : Nat) (b : Int) : (bud b).Below n := fun a ha => by
 simp [flat, AV.cells] at ha
 subst ha; exact .v _
theorem Qgv : ∀ (dn : Nat) (t : T) (b : Int) (i : Nat), dn ≤ 1000 → -1 ≤ b → b ≤ 1000 → Chg Tryz.prog 98 [.ptr i 0 0, t.av, .i (dn : Int)] i (bud b) (.b (t.run b dn).1) (bud (t.run b dn).2) := by
 intro dn
 induction dn with
 | zero =>
  intro t b i hdn hb0 hb1 h hi
  have w1 : IntKind.i64.wrap (b - 1) = b - 1 := Xp (by omega)
  have f1 := fun x L => QhP hi x L
  have f2 := fun x y L => QhQ hi x y L
  have f3 := fun x L => QhU (h := h) (i := i) x L
  have f4 := fun x => Zw h i x
  have fb : ∀ b, bud b = .cells 106 1 [.agg [.i b]] := fun _ => rfl
  by_cases m0 : b - 1 < 0
  ·have hn : (b - 1 < 0 ∨ ((0 : Nat) : Int) < 1) := .inl m0
   have R : t.run b ((0 : Nat) : Int) = (false, b - 1) := by
    rw [T.run_eq, if_pos hn]
   rw [R]
   refine Qh Tryz.func98 rfl Tryz.call98 Tryz.ntmps98 (congrArg Array.toList Tryz.results98) (by simp) ?_
   repeat (first | (((with_reducible refine Qa fun K E hK hE => ?_)); simp -implicitDefEqProofs only [Qe, Qf, OpW, aop, undef, AS.ev, Qv, AV.QoY, ↓reduceIte, Qm, QA, QB, QO, QH, aBin, ti3, XW, QS, w1, f1, f2, f4, fb, m0, seval]) | (with_reducible (first | refine Qd fun K hK => ?_ | refine Qj ?_ | refine Qq ?_)) | ((with_reducible refine hK _ ?_); clear hK) | (refine Qg rfl ?_; simp only [↓reduceIte]))
   simp only [QD, Ql, Qr, upd, ↓reduceIte, QpS, QpW]
   exact Xk (Xm _ _) (.keep (.v _)) ⟨rfl, rfl⟩
  ·have hn : (b - 1 < 0 ∨ ((0 : Nat) : Int) < 1) := .inr (by omega)
   have d0 : (0 : Int) < 1 := by omega
   have R : t.run b ((0 : Nat) : Int) = (false, b - 1) := by
    rw [T.run_eq, if_pos hn]
   rw [R]
   refine Qh Tryz.func98 rfl Tryz.call98 Tryz.ntmps98 (congrArg Array.toList Tryz.results98) (by simp) ?_
   repeat (first | (((with_reducible refine Qa fun K E hK hE => ?_)); simp -implicitDefEqProofs only [Qe, Qf, OpW, aop, undef, AS.ev, Qv, AV.QoY, ↓reduceIte, Qm, QA, QB, QO, QH, aBin, ti3, XW, QS, w1, f1, f2, f4, fb, m0, d0, seval]) | (with_reducible (first | refine Qd fun K hK => ?_ | refine Qj ?_ | refine Qq ?_)) | ((with_reducible refine hK _ ?_); clear hK) | (refine Qg rfl ?_; simp only [↓reduceIte]))
   simp only [QD, Ql, Qr, upd, ↓reduceIte, QpS, QpW]
   exact Xk (Xm _ _) (.keep (.v _)) ⟨rfl, rfl⟩
 | succ dn ih =>
  intro t b i hdn hb0 hb1 h hi
  have w1 : IntKind.i64.wrap (b - 1) = b - 1 := Xp (by omega)
  have f1 := fun x L => QhP hi x L
  have f2 := fun x y L => QhQ hi x y L
  have f3 := fun x L => QhU (h := h) (i := i) x L
  have f4 := fun x => Zw h i x
  have fb : ∀ b, bud b = .cells 106 1 [.agg [.i b]] := fun _ => rfl
  have wd : IntKind.i64.wrap (((dn + 1 : Nat) : Int) - 1) = (dn : Int) := by rw [Xp (by omega)]; omega
  by_cases m0 : b - 1 < 0
  ·have hn : (b - 1 < 0 ∨ ((dn + 1 : Nat) : Int) < 1) := .inl m0
   have R : t.run b ((dn + 1 : Nat) : Int) = (false, b - 1) := by
    rw [T.run_eq, if_pos hn]
   rw [R]
   refine Qh Tryz.func98 rfl Tryz.call98 Tryz.ntmps98 (congrArg Array.toList Tryz.results98) (by simp) ?_
   repeat (first | (((with_reducible refine Qa fun K E hK hE => ?_)); simp -implicitDefEqProofs only [Qe, Qf, OpW, aop, undef, AS.ev, Qv, AV.QoY, ↓reduceIte, Qm, QA, QB, QO, QH, aBin, ti3, XW, QS, w1, f1, f2, f4, fb, m0, seval]) | (with_reducible (first | refine Qd fun K hK => ?_ | refine Qj ?_ | refine Qq ?_)) | ((with_reducible refine hK _ ?_); clear hK) | (refine Qg rfl ?_; simp only [↓reduceIte]))
   simp only [QD, Ql, Qr, upd, ↓reduceIte, QpS, QpW]
   exact Xk (Xm _ _) (.keep (.v _)) ⟨rfl, rfl⟩
  have d0 : ¬ ((dn + 1 : Nat) : Int) < 1 := by omega
  have hn : ¬ (b - 1 < 0 ∨ ((dn + 1 : Nat) : Int) < 1) := by omega
  by_cases k0 : t.kind = 0
  ·have z0 : (t.kind == 0) = true := by simp [k0]
   by_cases c1 : t.int ≥ -2147483648
   rotate_left
   ·have e1 : ¬ -2147483648 ≤ t.int := by omega
    have R : t.run b ((dn + 1 : Nat) : Int) = (false, b - 1) := by
     rw [T.run_eq, if_neg hn, if_pos k0]; simp [e1]
    rw [R]
    refine Qh Tryz.func98 rfl Tryz.call98 Tryz.ntmps98 (congrArg Array.toList Tryz.results98) (by simp) ?_
    repeat (first | (((with_reducible refine Qa fun K E hK hE => ?_)); simp -implicitDefEqProofs only [Qe, Qf, OpW, aop, undef, AS.ev, Qv, AV.QoY, ↓reduceIte, Qm, QA, QB, QO, QH, aBin, ti3, QX, Q9, XW, QS, w1, f1, f2, f3, f4, fb, m0, d0, z0, c1, seval]) | (with_reducible (first | refine Qd fun K hK => ?_ | refine Qi ?_ | refine Qj ?_ | refine Qn ?_ | refine Qb ?_ | refine Qq ?_ | refine Qs ?_)) | ((with_reducible refine hK _ ?_); clear hK) | (refine Qg rfl ?_; simp only [↓reduceIte, QpQ]))
    simp only [QD, Ql, Qr, upd, ↓reduceIte, QpS, QpW]
    exact Xk (Xm _ _) (.keep (.v _)) ⟨rfl, rfl⟩
   have e1 : -2147483648 ≤ t.int := by omega
   by_cases c2 : t.int ≤ 2147483648
   rotate_left
   ·skip
    have R : t.run b ((dn + 1 : Nat) : Int) = (false, b - 1) := by
     rw [T.run_eq, if_neg hn, if_pos k0]; simp [e1, c2]
    rw [R]
    refine Qh Tryz.func98 rfl Tryz.call98 Tryz.ntmps98 (congrArg Array.toList Tryz.results98) (by simp) ?_
    repeat (first | (((with_reducible refine Qa fun K E hK hE => ?_)); simp -implicitDefEqProofs only [Qe, Qf, OpW, aop, undef, AS.ev, Qv, AV.QoY, ↓reduceIte, Qm, QA, QB, QO, QH, aBin, ti3, QX, Q9, XW, QS, w1, f1, f2, f3, f4, fb, m0, d0, z0, c1, c2, seval]) | (with_reducible (first | refine Qd fun K hK => ?_ | refine Qi ?_ | refine Qj ?_ | refine Qn ?_ | refine Qb ?_ | refine Qq ?_ | refine Qs ?_)) | ((with_reducible refine hK _ ?_); clear hK) | (refine Qg rfl ?_; simp only [↓reduceIte, QpQ]))
    simp only [QD, Ql, Qr, upd, ↓reduceIte, QpS, QpW]
    exact Xk (Xm _ _) (.keep (.v _)) ⟨rfl, rfl⟩
   cases c3 : Y8 t.name with
   | false =>
    have c3' : (t.name.toList == ({ data := #[] } : ByteArray).toList) = false := c3
    have R : t.run b ((dn + 1 : Nat) : Int) = (false, b - 1) := by
     rw [T.run_eq, if_neg hn, if_pos k0]; simp [e1, c2, c3]
    rw [R]
    refine Qh Tryz.func98 rfl Tryz.call98 Tryz.ntmps98 (congrArg Array.toList Tryz.results98) (by simp) ?_
    repeat (first | (((with_reducible refine Qa fun K E hK hE => ?_)); simp -implicitDefEqProofs only [Qe, Qf, OpW, aop, undef, AS.ev, Qv, AV.QoY, ↓reduceIte, Qm, QA, QB, QO, QH, aBin, ti3, ti9, QX, Q9, Xl, XW, QS, w1, f1, f2, f3, f4, fb, m0, d0, z0, c1, c2, c3', seval]) | (with_reducible (first | refine Qd fun K hK => ?_ | refine Qi ?_ | refine Qj ?_ | refine Qn ?_ | refine Qb ?_ | refine Qq ?_ | refine Qs ?_)) | ((with_reducible refine hK _ ?_); clear hK) | (refine Qg rfl ?_; simp only [↓reduceIte, QpQ]))
    simp only [QD, Ql, Qr, upd, ↓reduceIte, QpS, QpW]
    exact Xk (Xm _ _) (.keep (.v _)) ⟨rfl, rfl⟩
   | true =>
    have c3' : (t.name.toList == ({ data := #[] } : ByteArray).toList) = true := c3
    cases hl : t.args with
    | nil =>
     have c4 : ((0 : Int) == 0) = true := rfl
     have R : t.run b ((dn + 1 : Nat) : Int) = (true, b - 1) := by
      rw [T.run_eq, if_neg hn, if_pos k0]; simp [e1, c2, c3, hl]
     rw [R]
     refine Qh Tryz.func98 rfl Tryz.call98 Tryz.ntmps98 (congrArg Array.toList Tryz.results98) (by simp) ?_
     repeat (first | (((with_reducible refine Qa fun K E hK hE => ?_)); simp -implicitDefEqProofs only [Qe, Qf, OpW, aop, undef, AS.ev, Qv, AV.QoY, ↓reduceIte, Qm, QA, QB, QO, QH, aBin, aLen, goInt, ti3, ti9, ti29, un29, QX, Q9, Xl, Xc, XW, QS, w1, f1, f2, f3, f4, fb, m0, d0, z0, c1, c2, c3', hl, Qam, seval]) | (with_reducible (first | refine Qd fun K hK => ?_ | refine Qi ?_ | refine Qj ?_ | refine Qn ?_ | refine Qb ?_ | refine Qq ?_ | refine Qs ?_)) | ((with_reducible refine hK _ ?_); clear hK) | (refine Qg rfl ?_; simp only [↓reduceIte, QpQ]))
     simp only [QD, Ql, Qr, upd, ↓reduceIte, QpS, QpW]
     exact Xk (Xm _ _) (.keep (.v _)) ⟨rfl, rfl⟩
    | cons a l =>
     have c4 : (((l.length + 1 : Nat) : Int) == 0) = false := by simp; omega
     have R : t.run b ((dn + 1 : Nat) : Int) = (false, b - 1) := by
      rw [T.run_eq, if_neg hn, if_pos k0]; simp [e1, c2, c3, hl]
     rw [R]
     refine Qh Tryz.func98 rfl Tryz.call98 Tryz.ntmps98 (congrArg Array.toList Tryz.results98) (by simp) ?_
     repeat (first | (((with_reducible refine Qa fun K E hK hE => ?_)); simp -implicitDefEqProofs only [Qe, Qf, OpW, aop, undef, AS.ev, Qv, AV.QoY, ↓reduceIte, Qm, QA, QB, QO, QH, aBin, aLen, goInt, ti3, ti9, ti29, un29, QX, Q9, Xl, Xc, XW, QS, w1, f1, f2, f3, f4, fb, m0, d0, z0, c1, c2, c3', hl, c4, seval]) | (with_reducible (first | refine Qd fun K hK => ?_ | refine Qi ?_ | refine Qj ?_ | refine Qn ?_ | refine Qb ?_ | refine Qq ?_ | refine Qs ?_)) | ((with_reducible refine hK _ ?_); clear hK) | (refine Qg rfl ?_; simp only [↓reduceIte, QpQ]))
     simp only [QD, Ql, Qr, upd, ↓reduceIte, QpS, QpW]
     exact Xk (Xm _ _) (.keep (.v _)) ⟨rfl, rfl⟩
  have z0 : (t.kind == 0) = false := by simp [k0]
  by_cases k1 : t.kind = 1
  ·have z1 : (t.kind == 1) = true := by simp [k1]
   by_cases c1 : t.int ≥ 0
   rotate_left
   ·have e1 : ¬ 0 ≤ t.int := by omega
    have R : t.run b ((dn + 1 : Nat) : Int) = (false, b - 1) := by
     rw [T.run_eq, if_neg hn, if_neg k0, if_pos k1]; simp [e1]
    rw [R]
    refine Qh Tryz.func98 rfl Tryz.call98 Tryz.ntmps98 (congrArg Array.toList Tryz.results98) (by simp) ?_
    repeat (first | (((with_reducible refine Qa fun K E hK hE => ?_)); simp -implicitDefEqProofs only [Qe, Qf, OpW, aop, undef, AS.ev, Qv, AV.QoY, ↓reduceIte, Qm, QA, QB, QO, QH, aBin, ti3, QX, Q9, XW, QS, w1, f1, f2, f3, f4, fb, m0, d0, z0, z1, c1, seval]) | (with_reducible (first | refine Qd fun K hK => ?_ | refine Qi ?_ | refine Qj ?_ | refine Qn ?_ | refine Qb ?_ | refine Qq ?_ | refine Qs ?_)) | ((with_reducible refine hK _ ?_); clear hK) | (refine Qg rfl ?_; simp only [↓reduceIte, QpQ]))
    simp only [QD, Ql, Qr, upd, ↓reduceIte, QpS, QpW]
    exact Xk (Xm _ _) (.keep (.v _)) ⟨rfl, rfl⟩
   have e1 : 0 ≤ t.int := by omega
   by_cases c2 : t.int ≤ 1048576
   rotate_left
   ·skip
    have R : t.run b ((dn + 1 : Nat) : Int) = (false, b - 1) := by
     rw [T.run_eq, if_neg hn, if_neg k0, if_pos k1]; simp [e1, c2]
    rw [R]
    refine Qh Tryz.func98 rfl Tryz.call98 Tryz.ntmps98 (congrArg Array.toList Tryz.results98) (by simp) ?_
    repeat (first | (((with_reducible refine Qa fun K E hK hE => ?_)); simp -implicitDefEqProofs only [Qe, Qf, OpW, aop, undef, AS.ev, Qv, AV.QoY, ↓reduceIte, Qm, QA, QB, QO, QH, aBin, ti3, QX, Q9, XW, QS, w1, f1, f2, f3, f4, fb, m0, d0, z0, z1, c1, c2, seval]) | (with_reducible (first | refine Qd fun K hK => ?_ | refine Qi ?_ | refine Qj ?_ | refine Qn ?_ | refine Qb ?_ | refine Qq ?_ | refine Qs ?_)) | ((with_reducible refine hK _ ?_); clear hK) | (refine Qg rfl ?_; simp only [↓reduceIte, QpQ]))
    simp only [QD, Ql, Qr, upd, ↓reduceIte, QpS, QpW]
    exact Xk (Xm _ _) (.keep (.v _)) ⟨rfl, rfl⟩
   cases c3 : Y8 t.name with
   | false =>
    have c3' : (t.name.toList == ({ data := #[] } : ByteArray).toList) = false := c3
    have R : t.run b ((dn + 1 : Nat) : Int) = (false, b - 1) := by
     rw [T.run_eq, if_neg hn, if_neg k0, if_pos k1]; simp [e1, c2, c3]
    rw [R]
    refine Qh Tryz.func98 rfl Tryz.call98 Tryz.ntmps98 (congrArg Array.toList Tryz.results98) (by simp) ?_
    repeat (first | (((with_reducible refine Qa fun K E hK hE => ?_)); simp -implicitDefEqProofs only [Qe, Qf, OpW, aop, undef, AS.ev, Qv, AV.QoY, ↓reduceIte, Qm, QA, QB, QO, QH, aBin, ti3, ti9, QX, Q9, Xl, XW, QS, w1, f1, f2, f3, f4, fb, m0, d0, z0, z1, c1, c2, c3', seval]) | (with_reducible (first | refine Qd fun K hK => ?_ | refine Qi ?_ | refine Qj ?_ | refine Qn ?_ | refine Qb ?_ | refine Qq ?_ | refine Qs ?_)) | ((with_reducible refine hK _ ?_); clear hK) | (refine Qg rfl ?_; simp only [↓reduceIte, QpQ]))
    simp only [QD, Ql, Qr, upd, ↓reduceIte, QpS, QpW]
    exact Xk (Xm _ _) (.keep (.v _)) ⟨rfl, rfl⟩
   | true =>
    have c3' : (t.name.toList == ({ data := #[] } : ByteArray).toList) = true := c3
    cases hl : t.args with
    | nil =>
     have c4 : ((0 : Int) == 0) = true := rfl
     have R : t.run b ((dn + 1 : Nat) : Int) = (true, b - 1) := by
      rw [T.run_eq, if_neg hn, if_neg k0, if_pos k1]; simp [e1, c2, c3, hl]
     rw [R]
     refine Qh Tryz.func98 rfl Tryz.call98 Tryz.ntmps98 (congrArg Array.toList Tryz.results98) (by simp) ?_
     repeat (first | (((with_reducible refine Qa fun K E hK hE => ?_)); simp -implicitDefEqProofs only [Qe, Qf, OpW, aop, undef, AS.ev, Qv, AV.QoY, ↓reduceIte, Qm, QA, QB, QO, QH, aBin, aLen, goInt, ti3, ti9, ti29, un29, QX, Q9, Xl, Xc, XW, QS, w1, f1, f2, f3, f4, fb, m0, d0, z0, z1, c1, c2, c3', hl, Qam, seval]) | (with_reducible (first | refine Qd fun K hK => ?_ | refine Qi ?_ | refine Qj ?_ | refine Qn ?_ | refine Qb ?_ | refine Qq ?_ | refine Qs ?_)) | ((with_reducible refine hK _ ?_); clear hK) | (refine Qg rfl ?_; simp only [↓reduceIte, QpQ]))
     simp only [QD, Ql, Qr, upd, ↓reduceIte, QpS, QpW]
     exact Xk (Xm _ _) (.keep (.v _)) ⟨rfl, rfl⟩
    | cons a l =>
     have c4 : (((l.length + 1 : Nat) : Int) == 0) = false := by simp; omega
     have R : t.run b ((dn + 1 : Nat) : Int) = (false, b - 1) := by
      rw [T.run_eq, if_neg hn, if_neg k0, if_pos k1]; simp [e1, c2, c3, hl]
     rw [R]
     refine Qh Tryz.func98 rfl Tryz.call98 Tryz.ntmps98 (congrArg Array.toList Tryz.results98) (by simp) ?_
     repeat (first | (((with_reducible refine Qa fun K E hK hE => ?_)); simp -implicitDefEqProofs only [Qe, Qf, OpW, aop, undef, AS.ev, Qv, AV.QoY, ↓reduceIte, Qm, QA, QB, QO, QH, aBin, aLen, goInt, ti3, ti9, ti29, un29, QX, Q9, Xl, Xc, XW, QS, w1, f1, f2, f3, f4, fb, m0, d0, z0, z1, c1, c2, c3', hl, c4, seval]) | (with_reducible (first | refine Qd fun K hK => ?_ | refine Qi ?_ | refine Qj ?_ | refine Qn ?_ | refine Qb ?_ | refine Qq ?_ | refine Qs ?_)) | ((with_reducible refine hK _ ?_); clear hK) | (refine Qg rfl ?_; simp only [↓reduceIte, QpQ]))
     simp only [QD, Ql, Qr, upd, ↓reduceIte, QpS, QpW]
     exact Xk (Xm _ _) (.keep (.v _)) ⟨rfl, rfl⟩
  have z1 : (t.kind == 1) = false := by simp [k1]
  by_cases k2 : t.kind = 2
  rotate_left
  ·have z2 : (t.kind == 2) = false := by simp [k2]
   have R : t.run b ((dn + 1 : Nat) : Int) = (false, b - 1) := by
    rw [T.run_eq, if_neg hn, if_neg k0, if_neg k1, if_neg k2]
   rw [R]
   refine Qh Tryz.func98 rfl Tryz.call98 Tryz.ntmps98 (congrArg Array.toList Tryz.results98) (by simp) ?_
   repeat (first | (((with_reducible refine Qa fun K E hK hE => ?_)); simp -implicitDefEqProofs only [Qe, Qf, OpW, aop, undef, AS.ev, Qv, AV.QoY, ↓reduceIte, Qm, QA, QB, QO, QH, aBin, ti3, QX, XW, QS, w1, f1, f2, f3, f4, fb, m0, d0, z0, z1, z2, seval]) | (with_reducible (first | refine Qd fun K hK => ?_ | refine Qi ?_ | refine Qj ?_ | refine Qn ?_ | refine Qb ?_ | refine Qo ?_)) | ((with_reducible refine hK _ ?_); clear hK) | (refine Qg rfl ?_; simp only [↓reduceIte, QpQ]))
   simp only [QD, Ql, Qr, upd, ↓reduceIte, QpS, QpW]
   exact Xk (Xm _ _) (.keep (.v _)) ⟨rfl, rfl⟩
  have z2 : (t.kind == 2) = true := by simp [k2]
  by_cases i0 : t.int = 0
  rotate_left
  ·have y0 : (t.int != 0) = true := by simp [i0]
   have R : t.run b ((dn + 1 : Nat) : Int) = (false, b - 1) := by
    rw [T.run_eq, if_neg hn, if_neg k0, if_neg k1, if_pos k2, if_pos (.inl i0)]
   rw [R]
   refine Qh Tryz.func98 rfl Tryz.call98 Tryz.ntmps98 (congrArg Array.toList Tryz.results98) (by simp) ?_
   repeat (first | (((with_reducible refine Qa fun K E hK hE => ?_)); simp -implicitDefEqProofs only [Qe, Qf, OpW, aop, undef, AS.ev, Qv, AV.QoY, ↓reduceIte, Qm, QA, QB, QO, QH, aBin, ti3, QX, Q9, XW, QS, w1, f1, f2, f3, f4, fb, m0, d0, z0, z1, z2, y0, seval]) | (with_reducible (first | refine Qd fun K hK => ?_ | refine Qi ?_ | refine Qj ?_ | refine Qn ?_ | refine Qb ?_ | refine Qq ?_ | refine Qs ?_)) | ((with_reducible refine hK _ ?_); clear hK) | (refine Qg rfl ?_; simp only [↓reduceIte, QpQ]))
   simp only [QD, Ql, Qr, upd, ↓reduceIte, QpS, QpW]
   exact Xk (Xm _ _) (.keep (.v _)) ⟨rfl, rfl⟩
  have y0 : (t.int != 0) = false := by simp [i0]
  by_cases a6 : t.args.length > 6
  ·have y6 : (t.args.length : Int) > 6 := by omega
   have R : t.run b ((dn + 1 : Nat) : Int) = (false, b - 1) := by
    rw [T.run_eq, if_neg hn, if_neg k0, if_neg k1, if_pos k2, if_pos (.inr a6)]
   rw [R]
   refine Qh Tryz.func98 rfl Tryz.call98 Tryz.ntmps98 (congrArg Array.toList Tryz.results98) (by simp) ?_
   repeat (first | (((with_reducible refine Qa fun K E hK hE => ?_)); simp -implicitDefEqProofs only [Qe, Qf, OpW, aop, undef, AS.ev, Qv, AV.QoY, ↓reduceIte, Qm, QA, QB, QO, QH, aBin, aLen, goInt, ti3, ti29, un29, QX, Q9, Xc, XW, QS, w1, f1, f2, f3, f4, fb, m0, d0, z0, z1, z2, y0, y6, seval]) | (with_reducible (first | refine Qd fun K hK => ?_ | refine Qi ?_ | refine Qj ?_ | refine Qn ?_ | refine Qb ?_ | refine Qq ?_ | refine Qs ?_)) | ((with_reducible refine hK _ ?_); clear hK) | (refine Qg rfl ?_; simp only [↓reduceIte, QpQ]))
   simp only [QD, Ql, Qr, upd, ↓reduceIte, QpS, QpW]
   exact Xk (Xm _ _) (.keep (.v _)) ⟨rfl, rfl⟩
  have y6 : ¬ (t.args.length : Int) > 6 := by omega
  have a6' : ¬ 6 < t.args.length := a6
  have cr := Qep t.name
  have co := Qft t.name
  have er : (decide (QbK 1 t.name) && !resB t.name) = Yv t.name := rfl
  rw [er] at cr
  have hind := fun b2 hb => QkA dn (fun t b i h0 h1 => ih t b i (by omega) h0 h1) t.args (by omega) b2 i hb (fun t b hb h => T.Qpd t b dn hb h)
  have ca := (hind (b - 1) (by omega)).app hi [.cells 41 4 [t.av]]
  rw [fb, fb] at ca
  cases hr : Yv t.name with
  | true =>
   rw [hr] at cr
   have R : t.run b ((dn + 1 : Nat) : Int) = runL t.args (b - 1) (dn : Int) := by
    rw [T.run_eq, if_neg hn, if_neg k0, if_neg k1, if_pos k2, if_neg (show ¬ (t.int ≠ 0 ∨ 6 < t.args.length) by omega), hr, if_neg (by simp)]; rw [show (((dn + 1 : Nat) : Int) - 1) = (dn : Int) by omega]
   rw [R]
   refine Qh Tryz.func98 rfl Tryz.call98 Tryz.ntmps98 (congrArg Array.toList Tryz.results98) (by simp) ?_
   repeat (first | ((first | (with_reducible (first | refine Qa fun K E hK hE => ?_ | refine Qp cr ?_ | refine FunW.ret (FunW.call ca) ?_))); simp -implicitDefEqProofs only [Qe, Qf, OpW, QK, aop, undef, AS.ev, Qv, AV.QoY, ↓reduceIte, Qm, QA, QB, QO, QH, aBin, aLen, goInt, ti3, ti9, ti29, un29, QX, Q9, Xl, Xc, XW, QS, w1, f1, f2, f3, f4, fb, m0, d0, z0, z1, z2, y0, y6, wd, seval]) | (with_reducible (first | refine Qd fun K hK => ?_ | refine Qi ?_ | refine Qj ?_ | refine Qn ?_ | refine Qb ?_ | refine Qq ?_ | refine Qs ?_)) | ((with_reducible refine hK _ ?_); clear hK) | (refine Qg rfl ?_; simp only [↓reduceIte, QpQ]))
   simp only [QD, Ql, Qr, upd, ↓reduceIte, QpS, QpW]
   exact Xk (Xm _ _) (.keep (.v _)) ⟨rfl, rfl⟩
  | false =>
   rw [hr] at cr
   cases ho : opB t.name with
   | false =>
    rw [ho] at co
    have R : t.run b ((dn + 1 : Nat) : Int) = (false, b - 1) := by
     rw [T.run_eq, if_neg hn, if_neg k0, if_neg k1, if_pos k2, if_neg (show ¬ (t.int ≠ 0 ∨ 6 < t.args.length) by omega), hr, ho, if_pos (by simp)]
    rw [R]
    refine Qh Tryz.func98 rfl Tryz.call98 Tryz.ntmps98 (congrArg Array.toList Tryz.results98) (by simp) ?_
    repeat (first | ((first | (with_reducible (first | refine Qa fun K E hK hE => ?_ | refine Qp cr ?_ | refine Qp co ?_))); simp -implicitDefEqProofs only [Qe, Qf, OpW, QK, aop, undef, AS.ev, Qv, AV.QoY, ↓reduceIte, Qm, QA, QB, QO, QH, aBin, aLen, goInt, ti3, ti9, ti29, un29, QX, Q9, Xl, Xc, XW, QS, w1, f1, f2, f3, f4, fb, m0, d0, z0, z1, z2, y0, y6, seval]) | (with_reducible (first | refine Qd fun K hK => ?_ | refine Qi ?_ | refine Qj ?_ | refine Qn ?_ | refine Qb ?_ | refine Qq ?_ | refine Qs ?_)) | ((with_reducible refine hK _ ?_); clear hK) | (refine Qg rfl ?_; simp only [↓reduceIte, QpQ]))
    simp only [QD, Ql, Qr, upd, ↓reduceIte, QpS, QpW]
    exact Xk (Xm _ _) (.keep (.v _)) ⟨rfl, rfl⟩
   | true =>
    rw [ho] at co
    by_cases l2 : t.args.length = 2
    ·have z3 : ((t.args.length : Int) == 2) = true := by simp [l2]
     have R : t.run b ((dn + 1 : Nat) : Int) = runL t.args (b - 1) (dn : Int) := by
      rw [T.run_eq, if_neg hn, if_neg k0, if_neg k1, if_pos k2, if_neg (show ¬ (t.int ≠ 0 ∨ 6 < t.args.length) by omega), hr, ho, if_neg (by simp [l2])]; rw [show (((dn + 1 : Nat) : Int) - 1) = (dn : Int) by omega]
     rw [R]
     refine Qh Tryz.func98 rfl Tryz.call98 Tryz.ntmps98 (congrArg Array.toList Tryz.results98) (by simp) ?_
     repeat (first | ((first | (with_reducible (first | refine Qa fun K E hK hE => ?_ | refine Qp cr ?_ | refine Qp co ?_ | refine FunW.ret (FunW.call ca) ?_))); simp -implicitDefEqProofs only [Qe, Qf, OpW, QK, aop, undef, AS.ev, Qv, AV.QoY, ↓reduceIte, Qm, QA, QB, QO, QH, aBin, aLen, goInt, ti3, ti9, ti29, un29, QX, Q9, Xl, Xc, XW, QS, w1, f1, f2, f3, f4, fb, m0, d0, z0, z1, z2, y0, y6, z3, wd, seval]) | (with_reducible (first | refine Qd fun K hK => ?_ | refine Qi ?_ | refine Qj ?_ | refine Qn ?_ | refine Qb ?_ | refine Qq ?_ | refine Qs ?_)) | ((with_reducible refine hK _ ?_); clear hK) | (refine Qg rfl ?_; simp only [↓reduceIte, QpQ]))
     simp only [QD, Ql, Qr, upd, ↓reduceIte, QpS, QpW]
     exact Xk (Xm _ _) (.keep (.v _)) ⟨rfl, rfl⟩
    ·have z3 : ((t.args.length : Int) == 2) = false := by simp; omega
     have R : t.run b ((dn + 1 : Nat) : Int) = (false, b - 1) := by
      rw [T.run_eq, if_neg hn, if_neg k0, if_neg k1, if_pos k2, if_neg (show ¬ (t.int ≠ 0 ∨ 6 < t.args.length) by omega), hr, ho, if_pos (by simp [l2])]
     rw [R]
     refine Qh Tryz.func98 rfl Tryz.call98 Tryz.ntmps98 (congrArg Array.toList Tryz.results98) (by simp) ?_
     repeat (first | ((first | (with_reducible (first | refine Qa fun K E hK hE => ?_ | refine Qp cr ?_ | refine Qp co ?_))); simp -implicitDefEqProofs only [Qe, Qf, OpW, QK, aop, undef, AS.ev, Qv, AV.QoY, ↓reduceIte, Qm, QA, QB, QO, QH, aBin, aLen, goInt, ti3, ti9, ti29, un29, QX, Q9, Xl, Xc, XW, QS, w1, f1, f2, f3, f4, fb, m0, d0, z0, z1, z2, y0, y6, z3, seval]) | (with_reducible (first | refine Qd fun K hK => ?_ | refine Qi ?_ | refine Qj ?_ | refine Qn ?_ | refine Qb ?_ | refine Qq ?_ | refine Qs ?_)) | ((with_reducible refine hK _ ?_); clear hK) | (refine Qg rfl ?_; simp only [↓reduceIte, QpQ]))
     simp only [QD, Ql, Qr, upd, ↓reduceIte, QpS, QpW]
     exact Xk (Xm _ _) (.keep (.v _)) ⟨rfl, rfl⟩
theorem Chg.at {P : Program} {f : FuncId} {args : List AV} {i : Nat} {x y : AB} {r : AV} (H : Chg P f args i x r y) {h : AH} (hx : h[i]? = some x) : Xf P f args h fun o h' => o = .ret r ∧ h' = h.set i y := by
 have := H h (QF hx)
 rwa [Qfl hx] at this
theorem QnY (l : List T) (hl : l.length ≤ 1000) (h : AH) (i : Nat) (hx : h[i]? = some (.cells 106 1 [.agg [.i 200]])) : Xf Tryz.prog 70 [.ptr i 0 0, .sl 4 (avs l) none, .i 20] h
  fun o h' => o = .ret (.b (runL l 200 20).1) ∧ h' = h.set i (.cells 106 1 [.agg [.i (runL l 200 20).2]]) :=
 (QkA 20 (fun t b i h0 h1 => Qgv 20 t b i (by omega) h0 h1) l hl 200 i (by omega) (fun t b hb h => T.Qpd t b 20 hb h)).at hx
def rightAtomB (g : G) : Bool := Yv g.name && (decide (g.args.length ≤ 6) && (runL g.args 200 20).1)
theorem YG (g : G) : Pure Tryz.prog 33 [g.atom] (.b (rightAtomB g)) := by
 intro h
 have cr := Qep g.name
 have er : (decide (QbK 1 g.name) && !resB g.name) = Yv g.name := rfl
 rw [er] at cr
 cases hr : Yv g.name with
 | false =>
  rw [hr] at cr
  refine Qh Tryz.func33 rfl Tryz.call33 Tryz.ntmps33 (congrArg Array.toList Tryz.results33) (by simp) ?_
  repeat (first | ((first | (with_reducible (first | refine Qa fun K E hK hE => ?_ | refine Qk fun K E hK hE => ?_ | refine Qp cr ?_ | refine Qz cr ?_))); simp -implicitDefEqProofs only [Qe, Qf, OpW, QK, aop, undef, AS.ev, Qv, AV.QoY, ↓reduceIte, Qm, QA, QB, XA, XV, ti9, YQ, QlW, QmD, QT, seval]) | (with_reducible (first | refine Qd fun K hK => ?_ | refine Qi ?_ | refine Qj ?_ | refine Q0 ?_ | refine Q1 ?_ | refine Qn ?_ | refine QC ?_ | refine Qb ?_ | refine Qq ?_ | refine Qw ?_ | refine Qo ?_ | refine Qs ?_ | refine Qy ?_ | refine QU rfl ?_)) | (with_reducible (first | refine hK _ ?_ | (clear hK; refine hK _ ?_) | (clear hK; clear hK; refine hK _ ?_) | (clear hK; clear hK; clear hK; refine hK _ ?_)); clear hK) | (refine Qg rfl ?_; simp only [↓reduceIte, QpQ]) | (intro (b : Bool); cases b))
  simp only [QD, Ql, Qr, upd, ↓reduceIte, QpS, QpW]; first | refine Qc (htake _ _) (.keep (.v _)) ⟨by rw [rightAtomB, hr]; rfl, rfl⟩ | refine Qc List.take_length (.keep (.v _)) ⟨by rw [rightAtomB, hr]; rfl, rfl⟩
 | true =>
  rw [hr] at cr
  by_cases hl : (g.args.length : Int) ≤ 6
  ·have hl' : decide (g.args.length ≤ 6) = true := decide_eq_true (by omega)
   have ca := QnY g.args (by omega) (h ++ [.cells 45 2 [g.atom], .cells 106 1 [.agg [.i 200]]]) (h.length + 1) (by rw [hget]; rfl)
   rw [hset] at ca
   refine Qh Tryz.func33 rfl Tryz.call33 Tryz.ntmps33 (congrArg Array.toList Tryz.results33) (by simp) ?_
   repeat (first | ((first | (with_reducible (first | refine Qa fun K E hK hE => ?_ | refine Qk fun K E hK hE => ?_ | refine Qp cr ?_ | refine Qz cr ?_ | refine FunW.ret (FunW.call ca) ?_))); simp -implicitDefEqProofs only [Qe, Qf, OpW, QK, aop, undef, AS.ev, Qv, AV.QoY, ↓reduceIte, Qm, QA, QB, aBin, XA, XV, aLen, goInt, ti9, ti29, un29, YQ, YK, QlW, QmD, QT, hl, seval]) | (with_reducible (first | refine Qd fun K hK => ?_ | refine Qi ?_ | refine Qj ?_ | refine Q0 ?_ | refine Q1 ?_ | refine Qn ?_ | refine QC ?_ | refine Qb ?_ | refine Qq ?_ | refine Qw ?_ | refine Qo ?_ | refine Qs ?_ | refine Qy ?_ | refine QU rfl ?_)) | (with_reducible (first | refine hK _ ?_ | (clear hK; refine hK _ ?_) | (clear hK; clear hK; refine hK _ ?_) | (clear hK; clear hK; clear hK; refine hK _ ?_)); clear hK) | (refine Qg rfl ?_; simp only [↓reduceIte, QpQ]) | (intro (b : Bool); cases b))
   simp only [QD, Ql, Qr, upd, ↓reduceIte, QpS, QpW]; first | refine Qc (htake _ _) (.keep (.v _)) ⟨by rw [rightAtomB, hr, hl']; rfl, rfl⟩ | refine Qc List.take_length (.keep (.v _)) ⟨by rw [rightAtomB, hr, hl']; rfl, rfl⟩
  ·have hl' : decide (g.args.length ≤ 6) = false := decide_eq_false (by omega)
   refine Qh Tryz.func33 rfl Tryz.call33 Tryz.ntmps33 (congrArg Array.toList Tryz.results33) (by simp) ?_
   repeat (first | ((first | (with_reducible (first | refine Qa fun K E hK hE => ?_ | refine Qk fun K E hK hE => ?_ | refine Qp cr ?_ | refine Qz cr ?_))); simp -implicitDefEqProofs only [Qe, Qf, OpW, QK, aop, undef, AS.ev, Qv, AV.QoY, ↓reduceIte, Qm, QA, QB, aBin, XA, XV, aLen, goInt, ti9, ti29, un29, YQ, YK, QlW, QmD, QT, hl, seval]) | (with_reducible (first | refine Qd fun K hK => ?_ | refine Qi ?_ | refine Qj ?_ | refine Q0 ?_ | refine Q1 ?_ | refine Qn ?_ | refine QC ?_ | refine Qb ?_ | refine Qq ?_ | refine Qw ?_ | refine Qo ?_ | refine Qs ?_ | refine Qy ?_ | refine QU rfl ?_)) | (with_reducible (first | refine hK _ ?_ | (clear hK; refine hK _ ?_) | (clear hK; clear hK; refine hK _ ?_) | (clear hK; clear hK; clear hK; refine hK _ ?_)); clear hK) | (refine Qg rfl ?_; simp only [↓reduceIte, QpQ]) | (intro (b : Bool); cases b))
   simp only [QD, Ql, Qr, upd, ↓reduceIte, QpS, QpW]; first | refine Qc (htake _ _) (.keep (.v _)) ⟨by rw [rightAtomB, hr, hl']; rfl, rfl⟩ | refine Qc List.take_length (.keep (.v _)) ⟨by rw [rightAtomB, hr, hl']; rfl, rfl⟩
def T.runOk (t : T) : Bool := (t.run 200 20).1
theorem Qa6 (t : T) : Pure Tryz.prog 56 [t.av] (.b t.runOk) := by
 intro h
 have ca := (Qgv 20 t 200 (h.length + 1) (by omega) (by omega) (by omega)).at (h := h ++ [.cells 41 4 [t.av], .cells 106 1 [.agg [.i 200]]]) (by rw [hget]; rfl)
 rw [hset] at ca
 refine Qh Tryz.func56 rfl Tryz.call56 Tryz.ntmps56 (congrArg Array.toList Tryz.results56) (by simp) ?_
 repeat (first | ((first | (with_reducible (first | refine Qa fun K E hK hE => ?_ | refine Qk fun K E hK hE => ?_ | refine FunW.ret (FunW.call ca) ?_))); simp -implicitDefEqProofs only [Qe, Qf, OpW, QK, aop, undef, AS.ev, Qv, AV.QoY, ↓reduceIte, QA, QB, XA, XV, ti41, QlW, QmD, seval]) | (with_reducible (first | refine Qd fun K hK => ?_ | refine Qi ?_ | refine Qj ?_ | refine Q0 ?_ | refine Q1 ?_ | refine Qn ?_ | refine QC ?_ | refine Qb ?_ | refine Qq ?_ | refine Qw ?_ | refine Qo ?_ | refine Qs ?_ | refine Qy ?_ | refine QU rfl ?_)) | (with_reducible (first | refine hK _ ?_ | (clear hK; refine hK _ ?_) | (clear hK; clear hK; refine hK _ ?_) | (clear hK; clear hK; clear hK; refine hK _ ?_)); clear hK) | (refine Qg rfl ?_; simp only [↓reduceIte, QpQ]) | (intro (b : Bool); cases b))
 simp only [QD, Ql, Qr, upd, ↓reduceIte, QpS, QpW]; first | refine Qc (htake _ _) (.keep (.v _)) ⟨rfl, rfl⟩ | refine Qc List.take_length (.keep (.v _)) ⟨rfl, rfl⟩
def ascF : Option Int → List (Int × T) → Bool
 | _, [] => true
 | p, x :: l => !decide (x.1 < 0) && (!decide (x.1 > 1048576) && ((match p with | none => true | some q => !decide (q ≥ x.1)) && (x.2.runOk && ascF (some x.1) l)))
def bound (b : List (Int × T)) (v : Int) : Bool := b.any fun x => x.1 == v
def XT (t : T) : List Int := (walks YM [] [t]).2
def Zh (b : List (Int × T)) (l : List (Int × T)) : Bool := l.all fun x => (XT x.2).all fun v => !bound b v
def rightS (b : List (Int × T)) : Bool := ascF none b && Zh b b
def QcA (b : List (Int × T)) : Nat → Option Int
 | 0 => none
 | j + 1 => some (b.getD j (0, T.zero)).1
def bmap (b : List (Int × T)) : List (Int × AV) := b.map fun x => (x.1, AV.agg [])
theorem Qfb (b : List (Int × T)) (v : Int) : QaO v (bmap b) = if bound b v = true then some (.agg []) else none := by
 induction b with
 | nil => rfl
 | cons x b ih =>
  show (if v = x.1 then some (AV.agg []) else QaO v (bmap b)) = _
  rw [ih]
  by_cases h : v = x.1
  ·rw [if_pos h, if_pos (by simp [bound, h])]
  ·rw [if_neg h]
   have e : bound (x :: b) v = bound b v := by
    simp only [bound, List.any_cons]
    have : (x.1 == v) = false := by simp; omega
    rw [this, Bool.false_or]
   rw [e]
theorem QjF {b : List (Int × T)} {j : Nat} (h : j < b.length) (hb : ∀ k (hk : k < j), (b[k]'(by omega)).1 < (b[j]).1) : QaO (b[j]).1 (bmap (b.take j)) = none := by
 rw [Qfb, if_neg]
 intro hq
 simp only [bound, List.any_eq_true, beq_iff_eq] at hq
 obtain ⟨x, hx, e⟩ := hq
 obtain ⟨k, hk, rfl⟩ := List.getElem_of_mem hx
 simp only [List.length_take] at hk
 rw [List.getElem_take] at e
 have := hb k (by omega)
 omega
theorem QfW {b : List (Int × T)} {j : Nat} (h : j < b.length) : bmap (b.take (j + 1)) = bmap (b.take j) ++ [((b[j]).1, .agg [])] := by
 rw [bmap, bmap, List.take_succ_eq_append_getElem h, List.map_append]; rfl
theorem Qkt : ∀ (s : List Int) (n : Int), (YM s n).2.length ≤ s.length + 1 := fun s n => by
 simp only [YM]; split
 ·omega
 ·rw [List.length_append, List.length_singleton]; exact Nat.le_refl _
theorem Qaj (t : T) (hn : t.nds ≤ 1000000) : (XT t).length ≤ 1000000 := by
 have := QbN (σ := List Int) (g := YM) (J := fun s j => s.length + j ≤ ndsL [t]) (fun s n j h => by have := Qkt s n; omega) (fun s j j' h hl => by omega) 0 [] [t] (by simp)
 simp only [ndsL] at this
 unfold XT
 omega
theorem Qa2 (b : List (Int × T)) (hb : b.length ≤ 1000000) (hn : ∀ x ∈ b, x.2.nds ≤ 1000000) (ho : ∀ x ∈ b, i64 x.1 ∧ x.2.ok) : Pure Tryz.prog 34 [.sl 5 (bavs b) none] (.b (rightS b)) := by
 intro h
 have hM : Qhn Tryz.prog 107 = true := by kernel_rfl
 refine Qh Tryz.func34 rfl Tryz.call34 Tryz.ntmps34 (congrArg Array.toList Tryz.results34) (by simp) ?_
 repeat (first | (((with_reducible refine Qa fun K E hK hE => ?_)); simp -implicitDefEqProofs only [Qe, Qf, OpW, aop, undef, AS.ev, Qv, ↓reduceIte, aLen, goInt, un23, QL, hM, seval]) | (with_reducible (first | refine Qd fun K hK => ?_ | refine Qi ?_)) | ((with_reducible refine hK _ ?_); clear hK))
 obtain ⟨I, hI⟩ : ∃ I : Nat → AS → Prop, I = fun m' s => ∃ (j : Nat) (L : AH), m' = b.length - j ∧ j ≤ b.length ∧ ascF none b = ascF (QcA b j) (b.drop j) ∧ (∀ k (hk : k < j) (i : Nat) (hi : i < j), k ≤ i → ∀ (h1 : k < b.length) (h2 : i < b.length), (b[k]).1 ≤ (b[i]).1) ∧ s.tm 0 = .sl 5 (bavs b) none ∧ s.tm 3 = .mp h.length ∧ s.tm 15 = .sl 5 (bavs b) none ∧ s.tm 16 = .i b.length ∧ s.tm 17 = .i j ∧ s.h = h ++ ([.map (imap (bmap (b.take j)))] ++ L) := ⟨_, rfl⟩; refine QI I ?_ (m := b.length) ?_
 ·intro m' s hs; rw [hI] at hs; obtain ⟨tm, hp⟩ := s; dsimp only at hs; obtain ⟨j, L, rfl, hj, hr, hasc, t0, t3, t15, t16, t17, rfl⟩ := hs
  by_cases hlt : j < b.length
  ·rw [List.drop_eq_getElem_cons hlt] at hr
   have hbj := ho b[j] (List.getElem_mem hlt)
   have c1 := Qa6 b[j].2
   rw [T.Qo7] at c1
   have hnn : b[j].2.nds ≤ 1000000 := hn b[j] (List.getElem_mem hlt)
   by_cases k1 : b[j].1 < 0
   ·have e : ascF none b = false := by rw [hr]; simp [ascF, k1]
    repeat (first | (((with_reducible refine Qa fun K E hK hE => ?_)); simp -implicitDefEqProofs only [Qe, Qf, OpW, aop, undef, AS.ev, AV.QoY, ↓reduceIte, QA, QB, QO, QH, Qt, aBin, ei23, ti52, zi52, t15, t16, t17, hlt, QL, QY hlt, QN, Xh, seval]) | (with_reducible (first | refine Qd fun K hK => ?_ | refine Qi ?_ | refine Qn ?_ | refine Qb ?_)) | ((with_reducible refine hK _ ?_); clear hK) | (refine Qg rfl ?_; simp only [↓reduceIte]))
    first | refine Qu (id := 5) [(0, 0), (1, 0), (2, 0), (3, 0), (4, 0), (5, 0), (6, 0), (7, 0), (8, 0), (9, 0), (10, 0), (11, 0), (12, 0), (13, 0), (14, 0), (15, 0), (16, 0), (17, 0), (18, 0), (19, 0), (20, 0), (21, 0), (22, 0), (23, 0), (24, 0), (25, 0), (26, 1), (27, 0), (28, 0)] mixed (by kernel_rfl) fun K hK => ?_ | refine QG (id := 5) [(0, 0), (1, 0), (2, 0), (3, 0), (4, 0), (5, 0), (6, 0), (7, 0), (8, 0), (9, 0), (10, 0), (11, 0), (12, 0), (13, 0), (14, 0), (15, 0), (16, 0), (17, 0), (18, 0), (19, 0), (20, 0), (21, 0), (22, 0), (23, 0), (24, 0), (25, 0), (26, 1), (27, 0), (28, 0)] mixed (by kernel_rfl) fun K hK => ?_
    (try simp only [QpV, Qp3]); refine QQ 8 (fun K1 hK1 => ?_); simp -implicitDefEqProofs only [Qe, Qf, aop, undef, AS.ev, ↓reduceIte, Qm, QA, QB, aBin, ti3, Xx, QN, k1, seval]; refine hK1 _ ?_; clear hK1
    (try simp only [QpV, Qp3]); refine QQ 8 (fun K1 hK1 => ?_); simp -implicitDefEqProofs only [Qe, Qf, aop, undef, AS.ev, ↓reduceIte, seval]; refine hK1 _ ?_; clear hK1
    (try simp only [QpV, Qp3]); refine QQ 8 (fun K1 hK1 => ?_); simp -implicitDefEqProofs only [Qe, Qf, aop, undef, AS.ev, ↓reduceIte, seval]; refine hK1 _ ?_; clear hK1
    (try simp only [QpV, Qp3])
    simp -implicitDefEqProofs only [Qe, Qf, aop, undef, AS.ev, ↓reduceIte, seval]
    repeat (first | (((with_reducible refine Qa fun K E hK hE => ?_)); simp -implicitDefEqProofs only [Q4, Q2, Qf, OpW, aop, AS.ev, Q6, Xq, Nat.reduceLT]) | (with_reducible (first | refine Qj ?_ | refine Qb ?_ | refine Qq ?_ | refine Qs ?_)) | ((with_reducible refine hK _ ?_); clear hK) | (refine Qg rfl ?_; simp only [↓reduceIte]))
    simp only [QD, Ql, Qr, upd, ↓reduceIte, QpS, QpW]; first | refine Qc (htake _ _) (.keep (.v _)) ⟨by rw [rightS, e]; rfl, rfl⟩ | refine Qc List.take_length (.keep (.v _)) ⟨by rw [rightS, e]; rfl, rfl⟩
   by_cases k2 : b[j].1 > 1048576
   ·have e : ascF none b = false := by rw [hr]; simp [ascF, k2]
    repeat (first | (((with_reducible refine Qa fun K E hK hE => ?_)); simp -implicitDefEqProofs only [Qe, Qf, OpW, aop, undef, AS.ev, AV.QoY, ↓reduceIte, QA, QB, QO, QH, Qt, aBin, ei23, ti52, zi52, t15, t16, t17, hlt, QL, QY hlt, QN, Xh, seval]) | (with_reducible (first | refine Qd fun K hK => ?_ | refine Qi ?_ | refine Qn ?_ | refine Qb ?_)) | ((with_reducible refine hK _ ?_); clear hK) | (refine Qg rfl ?_; simp only [↓reduceIte]))
    first | refine Qu (id := 5) [(0, 0), (1, 0), (2, 0), (3, 0), (4, 0), (5, 0), (6, 0), (7, 0), (8, 0), (9, 0), (10, 0), (11, 0), (12, 0), (13, 0), (14, 0), (15, 0), (16, 0), (17, 0), (18, 0), (19, 0), (20, 0), (21, 0), (22, 0), (23, 0), (24, 0), (25, 0), (26, 1), (27, 0), (28, 0)] mixed (by kernel_rfl) fun K hK => ?_ | refine QG (id := 5) [(0, 0), (1, 0), (2, 0), (3, 0), (4, 0), (5, 0), (6, 0), (7, 0), (8, 0), (9, 0), (10, 0), (11, 0), (12, 0), (13, 0), (14, 0), (15, 0), (16, 0), (17, 0), (18, 0), (19, 0), (20, 0), (21, 0), (22, 0), (23, 0), (24, 0), (25, 0), (26, 1), (27, 0), (28, 0)] mixed (by kernel_rfl) fun K hK => ?_
    (try simp only [QpV, Qp3]); refine QQ 8 (fun K1 hK1 => ?_); simp -implicitDefEqProofs only [Qe, Qf, aop, AS.ev, ↓reduceIte, Qm, QA, QB, aBin, ti3, Xx, QN, k1, k2, seval]; refine hK1 _ ?_; clear hK1
    (try simp only [QpV, Qp3]); refine QQ 8 (fun K1 hK1 => ?_); simp -implicitDefEqProofs only [Qe, Qf, aop, undef, AS.ev, ↓reduceIte, seval]; refine hK1 _ ?_; clear hK1
    (try simp only [QpV, Qp3]); refine QQ 8 (fun K1 hK1 => ?_); simp -implicitDefEqProofs only [Qe, Qf, aop, undef, AS.ev, ↓reduceIte, seval]; refine hK1 _ ?_; clear hK1
    (try simp only [QpV, Qp3])
    simp -implicitDefEqProofs only [Qe, Qf, aop, undef, AS.ev, ↓reduceIte, seval]
    repeat (first | (((with_reducible refine Qa fun K E hK hE => ?_)); simp -implicitDefEqProofs only [Q4, Q2, Qf, OpW, aop, AS.ev, Q6, Xq, Nat.reduceLT]) | (with_reducible (first | refine Qj ?_ | refine Qb ?_ | refine Qq ?_ | refine Qs ?_)) | ((with_reducible refine hK _ ?_); clear hK) | (refine Qg rfl ?_; simp only [↓reduceIte]))
    simp only [QD, Ql, Qr, upd, ↓reduceIte, QpS, QpW]; first | refine Qc (htake _ _) (.keep (.v _)) ⟨by rw [rightS, e]; rfl, rfl⟩ | refine Qc List.take_length (.keep (.v _)) ⟨by rw [rightS, e]; rfl, rfl⟩
   have hpv : QcA b (j + 1) = some b[j].1 := by simp only [QcA]; rw [List.getD_eq_getElem?_getD, List.getElem?_eq_getElem hlt]; rfl
   have hup0 : (∀ k (hk : k < j), (b[k]'(by omega)).1 < (b[j]).1) → updA (.int .i64) (.int .i64 (b[j]).1) (.agg []) (imap (bmap (b.take j))) = some (imap (bmap (b.take j) ++ [((b[j]).1, .agg [])])) := fun q =>
    QcI _ _ _ (QjF hlt q)
   by_cases hj0 : j = 0
   ·have hjz : ¬ ((j : Int) > 0) := by omega
    have hup := hup0 (fun k hk => by omega)
    have hasc' : ∀ k (hk : k < j + 1) (i : Nat) (hi : i < j + 1), k ≤ i → ∀ (h1 : k < b.length) (h2 : i < b.length), (b[k]).1 ≤ (b[i]).1 := fun k hk i hi hki h1 h2 => by
     have e1 : k = 0 := by omega
     have e2 : i = 0 := by omega
     subst e1; subst e2; exact Int.le_refl _
    have hprev : QcA b j = none := by rw [hj0]; rfl
    rw [hprev] at hr
    cases hrt : b[j].2.runOk with
    | false =>
     rw [hrt] at c1
     have e : ascF none b = false := by rw [hr]; simp [ascF, hrt]
     repeat (first | (((with_reducible refine Qa fun K E hK hE => ?_)); simp -implicitDefEqProofs only [Qe, Qf, OpW, aop, undef, AS.ev, AV.QoY, ↓reduceIte, QA, QB, QO, QH, Qt, aBin, ei23, ti52, zi52, t15, t16, t17, hlt, QL, QY hlt, QN, Xh, seval]) | (with_reducible (first | refine Qd fun K hK => ?_ | refine Qi ?_ | refine Qn ?_ | refine Qb ?_)) | ((with_reducible refine hK _ ?_); clear hK) | (refine Qg rfl ?_; simp only [↓reduceIte]))
     first | refine Qu (id := 5) [(0, 0), (1, 0), (2, 0), (3, 0), (4, 0), (5, 0), (6, 0), (7, 0), (8, 0), (9, 0), (10, 0), (11, 0), (12, 0), (13, 0), (14, 0), (15, 0), (16, 0), (17, 0), (18, 0), (19, 0), (20, 0), (21, 0), (22, 0), (23, 0), (24, 0), (25, 0), (26, 1), (27, 0), (28, 0)] mixed (by kernel_rfl) fun K hK => ?_ | refine QG (id := 5) [(0, 0), (1, 0), (2, 0), (3, 0), (4, 0), (5, 0), (6, 0), (7, 0), (8, 0), (9, 0), (10, 0), (11, 0), (12, 0), (13, 0), (14, 0), (15, 0), (16, 0), (17, 0), (18, 0), (19, 0), (20, 0), (21, 0), (22, 0), (23, 0), (24, 0), (25, 0), (26, 1), (27, 0), (28, 0)] mixed (by kernel_rfl) fun K hK => ?_
     (try simp only [QpV, Qp3]); refine QQ 8 (fun K1 hK1 => ?_); simp -implicitDefEqProofs only [Qe, Qf, aop, AS.ev, ↓reduceIte, Qm, QA, QB, aBin, ti3, Xx, QN, k1, k2, seval]; refine hK1 _ ?_; clear hK1
     (try simp only [QpV, Qp3]); refine QQ 8 (fun K1 hK1 => ?_); simp -implicitDefEqProofs only [Qe, Qf, aop, undef, AS.ev, ↓reduceIte, aBin, hjz, seval]; refine hK1 _ ?_; clear hK1
     (try simp only [QpV, Qp3]); refine QQ 8 (fun K1 hK1 => ?_); simp -implicitDefEqProofs only [Qe, Qf, aop, undef, AS.ev, ↓reduceIte, seval]; refine hK1 _ ?_; clear hK1
     (try simp only [QpV, Qp3])
     simp -implicitDefEqProofs only [Qe, Qf, aop, AS.ev, ↓reduceIte, Qm, QA, QB, ti41, Zc, QN, Xh, seval]
     repeat (first | ((first | (with_reducible (first | refine Qa fun K E hK hE => ?_ | refine Qz c1 ?_))); simp -implicitDefEqProofs only [Qe, Qf, OpW, aop, AS.ev, ↓reduceIte, seval]) | (with_reducible (first | refine Qj ?_ | refine Qb ?_ | refine Qq ?_ | refine Qs ?_)) | ((with_reducible refine hK _ ?_); clear hK) | (refine Qg rfl ?_; simp only [↓reduceIte]))
     simp only [QD, Ql, Qr, upd, ↓reduceIte, QpS, QpW]; first | refine Qc (htake _ _) (.keep (.v _)) ⟨by rw [rightS, e]; rfl, rfl⟩ | refine Qc List.take_length (.keep (.v _)) ⟨by rw [rightS, e]; rfl, rfl⟩
    | true =>
     rw [hrt] at c1
     repeat (first | (((with_reducible refine Qa fun K E hK hE => ?_)); simp -implicitDefEqProofs only [Qe, Qf, OpW, aop, undef, AS.ev, AV.QoY, ↓reduceIte, QA, QB, QO, QH, Qt, aBin, ei23, ti52, zi52, t15, t16, t17, hlt, QL, QY hlt, QN, Xh, seval]) | (with_reducible (first | refine Qd fun K hK => ?_ | refine Qi ?_ | refine Qn ?_ | refine Qb ?_)) | ((with_reducible refine hK _ ?_); clear hK) | (refine Qg rfl ?_; simp only [↓reduceIte]))
     first | refine Qu (id := 5) [(0, 0), (1, 0), (2, 0), (3, 0), (4, 0), (5, 0), (6, 0), (7, 0), (8, 0), (9, 0), (10, 0), (11, 0), (12, 0), (13, 0), (14, 0), (15, 0), (16, 0), (17, 0), (18, 0), (19, 0), (20, 0), (21, 0), (22, 0), (23, 0), (24, 0), (25, 0), (26, 1), (27, 0), (28, 0)] mixed (by kernel_rfl) fun K hK => ?_ | refine QG (id := 5) [(0, 0), (1, 0), (2, 0), (3, 0), (4, 0), (5, 0), (6, 0), (7, 0), (8, 0), (9, 0), (10, 0), (11, 0), (12, 0), (13, 0), (14, 0), (15, 0), (16, 0), (17, 0), (18, 0), (19, 0), (20, 0), (21, 0), (22, 0), (23, 0), (24, 0), (25, 0), (26, 1), (27, 0), (28, 0)] mixed (by kernel_rfl) fun K hK => ?_
     (try simp only [QpV, Qp3]); refine QQ 8 (fun K1 hK1 => ?_); simp -implicitDefEqProofs only [Qe, Qf, aop, AS.ev, ↓reduceIte, Qm, QA, QB, aBin, ti3, Xx, QN, k1, k2, seval]; refine hK1 _ ?_; clear hK1
     (try simp only [QpV, Qp3]); refine QQ 8 (fun K1 hK1 => ?_); simp -implicitDefEqProofs only [Qe, Qf, aop, undef, AS.ev, ↓reduceIte, aBin, hjz, seval]; refine hK1 _ ?_; clear hK1
     (try simp only [QpV, Qp3]); refine QQ 8 (fun K1 hK1 => ?_); simp -implicitDefEqProofs only [Qe, Qf, aop, undef, AS.ev, ↓reduceIte, seval]; refine hK1 _ ?_; clear hK1
     (try simp only [QpV, Qp3])
     simp -implicitDefEqProofs only [Qe, Qf, aop, AS.ev, ↓reduceIte, Qm, QA, QB, ti41, Zc, QN, Xh, seval]
     repeat (first | ((first | (with_reducible (first | refine Qk fun K E hK hE => ?_ | refine Qz c1 ?_))); simp -implicitDefEqProofs only [Qe, Qf, OpW, aop, undef, AS.ev, AV.QoY, ↓reduceIte, Qm, QA, QB, aBin, XA, XV, Yd, ti3, Xx, Qmb, Ql3, QnV, t3, t17, QN, hup, seval]) | (with_reducible (first | refine Qn ?_ | refine Qb ?_ | refine Qo ?_)) | ((with_reducible refine hK _ ?_); clear hK) | (refine Qg rfl ?_; simp only [↓reduceIte, QpQ]))
     refine QV.mk (m' := b.length - (j + 1)) (by omega) ?_
     rw [hI]
     refine ⟨j + 1, L ++ [.cells 52 5 [bav b[j]]], rfl, hlt, ?_, hasc', t0, t3, t15, t16, ?_, ?_⟩
     ·rw [hr, hpv]
      simp [ascF, k1, k2, hrt]
     ·simp only [upd, ↓reduceIte]
      rw [QP (by omega)]
     ·rw [QfW hlt]; simp
   ·have hjz : (j : Int) > 0 := by omega
    have hw1 : IntKind.i64.wrap ((j : Int) - 1) = ((j - 1 : Nat) : Int) := by rw [Xp (by omega)]; omega
    have hlt1 : j - 1 < b.length := by omega
    have hprev : QcA b j = some (b[j - 1]).1 := by
     obtain ⟨i, rfl⟩ : ∃ i, j = i + 1 := ⟨j - 1, by omega⟩
     simp only [QcA, Nat.add_sub_cancel]; rw [List.getD_eq_getElem?_getD, List.getElem?_eq_getElem (by omega)]; rfl
    rw [hprev] at hr
    by_cases k3 : b[j].1 ≤ (b[j - 1]).1
    ·have e : ascF none b = false := by rw [hr]; simp [ascF, k3]
     repeat (first | (((with_reducible refine Qa fun K E hK hE => ?_)); simp -implicitDefEqProofs only [Qe, Qf, OpW, aop, undef, AS.ev, AV.QoY, ↓reduceIte, QA, QB, QO, QH, Qt, aBin, ei23, ti52, zi52, t15, t16, t17, hlt, QL, QY hlt, QN, Xh, seval]) | (with_reducible (first | refine Qd fun K hK => ?_ | refine Qi ?_ | refine Qn ?_ | refine Qb ?_)) | ((with_reducible refine hK _ ?_); clear hK) | (refine Qg rfl ?_; simp only [↓reduceIte]))
     first | refine Qu (id := 5) [(0, 0), (1, 0), (2, 0), (3, 0), (4, 0), (5, 0), (6, 0), (7, 0), (8, 0), (9, 0), (10, 0), (11, 0), (12, 0), (13, 0), (14, 0), (15, 0), (16, 0), (17, 0), (18, 0), (19, 0), (20, 0), (21, 0), (22, 0), (23, 0), (24, 0), (25, 0), (26, 1), (27, 0), (28, 0)] mixed (by kernel_rfl) fun K hK => ?_ | refine QG (id := 5) [(0, 0), (1, 0), (2, 0), (3, 0), (4, 0), (5, 0), (6, 0), (7, 0), (8, 0), (9, 0), (10, 0), (11, 0), (12, 0), (13, 0), (14, 0), (15, 0), (16, 0), (17, 0), (18, 0), (19, 0), (20, 0), (21, 0), (22, 0), (23, 0), (24, 0), (25, 0), (26, 1), (27, 0), (28, 0)] mixed (by kernel_rfl) fun K hK => ?_
     (try simp only [QpV, Qp3]); refine QQ 8 (fun K1 hK1 => ?_); simp -implicitDefEqProofs only [Qe, Qf, aop, AS.ev, ↓reduceIte, Qm, QA, QB, aBin, ti3, Xx, QN, k1, k2, seval]; refine hK1 _ ?_; clear hK1
     (try simp only [QpV, Qp3]); refine QQ 8 (fun K1 hK1 => ?_); simp -implicitDefEqProofs only [Qe, Qf, aop, AS.ev, ↓reduceIte, Qt, aBin, ei23, t0, QL, hjz, hw1, hlt1, seval]; refine hK1 _ ?_; clear hK1
     (try simp only [QpV, Qp3]); refine QQ 8 (fun K1 hK1 => ?_); simp -implicitDefEqProofs only [Qe, Qf, aop, AS.ev, ↓reduceIte, Qm, QA, QB, aBin, ti3, Xx, QN, QY hlt1, k3, seval]; refine hK1 _ ?_; clear hK1
     (try simp only [QpV, Qp3])
     simp -implicitDefEqProofs only [Qe, Qf, aop, undef, AS.ev, ↓reduceIte, seval]
     repeat (first | (((with_reducible refine Qa fun K E hK hE => ?_)); simp -implicitDefEqProofs only [Q4, Q2, Qf, OpW, aop, AS.ev, Q6, Xq, Nat.reduceLT]) | (with_reducible (first | refine Qj ?_ | refine Qb ?_ | refine Qq ?_ | refine Qs ?_)) | ((with_reducible refine hK _ ?_); clear hK) | (refine Qg rfl ?_; simp only [↓reduceIte]))
     simp only [QD, Ql, Qr, upd, ↓reduceIte, QpS, QpW]; first | refine Qc (htake _ _) (.keep (.v _)) ⟨by rw [rightS, e]; rfl, rfl⟩ | refine Qc List.take_length (.keep (.v _)) ⟨by rw [rightS, e]; rfl, rfl⟩
    have hup := hup0 (fun k hk => by have := hasc k (by omega) (j - 1) (by omega) (by omega) (by omega) hlt1; omega)
    have hasc' : ∀ k (hk : k < j + 1) (i : Nat) (hi : i < j + 1), k ≤ i → ∀ (h1 : k < b.length) (h2 : i < b.length), (b[k]).1 ≤ (b[i]).1 := fun k hk i hi hki h1 h2 => by
     by_cases q : i < j
     ·exact hasc k (by omega) i q hki h1 h2
     ·have e2 : i = j := by omega
      subst e2
      by_cases q2 : k = i
      ·subst q2; exact Int.le_refl _
      ·have := hasc k (by omega) (i - 1) (by omega) (by omega) h1 hlt1; omega
    cases hrt : b[j].2.runOk with
    | false =>
     rw [hrt] at c1
     have e : ascF none b = false := by rw [hr]; simp [ascF, hrt]
     repeat (first | (((with_reducible refine Qa fun K E hK hE => ?_)); simp -implicitDefEqProofs only [Qe, Qf, OpW, aop, undef, AS.ev, AV.QoY, ↓reduceIte, QA, QB, QO, QH, Qt, aBin, ei23, ti52, zi52, t15, t16, t17, hlt, QL, QY hlt, QN, Xh, seval]) | (with_reducible (first | refine Qd fun K hK => ?_ | refine Qi ?_ | refine Qn ?_ | refine Qb ?_)) | ((with_reducible refine hK _ ?_); clear hK) | (refine Qg rfl ?_; simp only [↓reduceIte]))
     first | refine Qu (id := 5) [(0, 0), (1, 0), (2, 0), (3, 0), (4, 0), (5, 0), (6, 0), (7, 0), (8, 0), (9, 0), (10, 0), (11, 0), (12, 0), (13, 0), (14, 0), (15, 0), (16, 0), (17, 0), (18, 0), (19, 0), (20, 0), (21, 0), (22, 0), (23, 0), (24, 0), (25, 0), (26, 1), (27, 0), (28, 0)] mixed (by kernel_rfl) fun K hK => ?_ | refine QG (id := 5) [(0, 0), (1, 0), (2, 0), (3, 0), (4, 0), (5, 0), (6, 0), (7, 0), (8, 0), (9, 0), (10, 0), (11, 0), (12, 0), (13, 0), (14, 0), (15, 0), (16, 0), (17, 0), (18, 0), (19, 0), (20, 0), (21, 0), (22, 0), (23, 0), (24, 0), (25, 0), (26, 1), (27, 0), (28, 0)] mixed (by kernel_rfl) fun K hK => ?_
     (try simp only [QpV, Qp3]); refine QQ 8 (fun K1 hK1 => ?_); simp -implicitDefEqProofs only [Qe, Qf, aop, AS.ev, ↓reduceIte, Qm, QA, QB, aBin, ti3, Xx, QN, k1, k2, seval]; refine hK1 _ ?_; clear hK1
     (try simp only [QpV, Qp3]); refine QQ 8 (fun K1 hK1 => ?_); simp -implicitDefEqProofs only [Qe, Qf, aop, AS.ev, ↓reduceIte, Qt, aBin, ei23, t0, QL, hjz, hw1, hlt1, seval]; refine hK1 _ ?_; clear hK1
     (try simp only [QpV, Qp3]); refine QQ 8 (fun K1 hK1 => ?_); simp -implicitDefEqProofs only [Qe, Qf, aop, AS.ev, ↓reduceIte, Qm, QA, QB, aBin, ti3, Xx, QN, QY hlt1, k3, seval]; refine hK1 _ ?_; clear hK1
     (try simp only [QpV, Qp3])
     simp -implicitDefEqProofs only [Qe, Qf, aop, AS.ev, ↓reduceIte, Qm, QA, QB, ti41, Zc, QN, Xh, seval]
     repeat (first | ((first | (with_reducible (first | refine Qa fun K E hK hE => ?_ | refine Qz c1 ?_))); simp -implicitDefEqProofs only [Qe, Qf, OpW, aop, AS.ev, ↓reduceIte, seval]) | (with_reducible (first | refine Qj ?_ | refine Qb ?_ | refine Qq ?_ | refine Qs ?_)) | ((with_reducible refine hK _ ?_); clear hK) | (refine Qg rfl ?_; simp only [↓reduceIte]))
     simp only [QD, Ql, Qr, upd, ↓reduceIte, QpS, QpW]; first | refine Qc (htake _ _) (.keep (.v _)) ⟨by rw [rightS, e]; rfl, rfl⟩ | refine Qc List.take_length (.keep (.v _)) ⟨by rw [rightS, e]; rfl, rfl⟩
    | true =>
     rw [hrt] at c1
     repeat (first | (((with_reducible refine Qa fun K E hK hE => ?_)); simp -implicitDefEqProofs only [Qe, Qf, OpW, aop, undef, AS.ev, AV.QoY, ↓reduceIte, QA, QB, QO, QH, Qt, aBin, ei23, ti52, zi52, t15, t16, t17, hlt, QL, QY hlt, QN, Xh, seval]) | (with_reducible (first | refine Qd fun K hK => ?_ | refine Qi ?_ | refine Qn ?_ | refine Qb ?_)) | ((with_reducible refine hK _ ?_); clear hK) | (refine Qg rfl ?_; simp only [↓reduceIte]))
     first | refine Qu (id := 5) [(0, 0), (1, 0), (2, 0), (3, 0), (4, 0), (5, 0), (6, 0), (7, 0), (8, 0), (9, 0), (10, 0), (11, 0), (12, 0), (13, 0), (14, 0), (15, 0), (16, 0), (17, 0), (18, 0), (19, 0), (20, 0), (21, 0), (22, 0), (23, 0), (24, 0), (25, 0), (26, 1), (27, 0), (28, 0)] mixed (by kernel_rfl) fun K hK => ?_ | refine QG (id := 5) [(0, 0), (1, 0), (2, 0), (3, 0), (4, 0), (5, 0), (6, 0), (7, 0), (8, 0), (9, 0), (10, 0), (11, 0), (12, 0), (13, 0), (14, 0), (15, 0), (16, 0), (17, 0), (18, 0), (19, 0), (20, 0), (21, 0), (22, 0), (23, 0), (24, 0), (25, 0), (26, 1), (27, 0), (28, 0)] mixed (by kernel_rfl) fun K hK => ?_
     (try simp only [QpV, Qp3]); refine QQ 8 (fun K1 hK1 => ?_); simp -implicitDefEqProofs only [Qe, Qf, aop, AS.ev, ↓reduceIte, Qm, QA, QB, aBin, ti3, Xx, QN, k1, k2, seval]; refine hK1 _ ?_; clear hK1
     (try simp only [QpV, Qp3]); refine QQ 8 (fun K1 hK1 => ?_); simp -implicitDefEqProofs only [Qe, Qf, aop, AS.ev, ↓reduceIte, Qt, aBin, ei23, t0, QL, hjz, hw1, hlt1, seval]; refine hK1 _ ?_; clear hK1
     (try simp only [QpV, Qp3]); refine QQ 8 (fun K1 hK1 => ?_); simp -implicitDefEqProofs only [Qe, Qf, aop, AS.ev, ↓reduceIte, Qm, QA, QB, aBin, ti3, Xx, QN, QY hlt1, k3, seval]; refine hK1 _ ?_; clear hK1
     (try simp only [QpV, Qp3])
     simp -implicitDefEqProofs only [Qe, Qf, aop, AS.ev, ↓reduceIte, Qm, QA, QB, ti41, Zc, QN, Xh, seval]
     repeat (first | ((first | (with_reducible (first | refine Qk fun K E hK hE => ?_ | refine Qz c1 ?_))); simp -implicitDefEqProofs only [Qe, Qf, OpW, aop, undef, AS.ev, AV.QoY, ↓reduceIte, Qm, QA, QB, aBin, XA, XV, Yd, ti3, Xx, Qmb, Ql3, QnV, t3, t17, QN, hup, seval]) | (with_reducible (first | refine Qn ?_ | refine Qb ?_ | refine Qo ?_)) | ((with_reducible refine hK _ ?_); clear hK) | (refine Qg rfl ?_; simp only [↓reduceIte, QpQ]))
     refine QV.mk (m' := b.length - (j + 1)) (by omega) ?_
     rw [hI]
     refine ⟨j + 1, L ++ [.cells 52 5 [bav b[j]]], rfl, hlt, ?_, hasc', t0, t3, t15, t16, ?_, ?_⟩
     ·rw [hr, hpv]
      simp [ascF, k1, k2, hrt, k3]
     ·simp only [upd, ↓reduceIte]
      rw [QP (by omega)]
     ·rw [QfW hlt]; simp
  ·have hjl : j = b.length := by omega
   have e : ascF none b = true := by rw [hr, hjl, List.drop_length]; rfl
   rw [hjl, List.take_length]
   repeat (first | (((with_reducible refine Qa fun K E hK hE => ?_)); simp -implicitDefEqProofs only [Qe, Qf, OpW, aop, AS.ev, ↓reduceIte, aBin, aLen, goInt, un23, t0, t16, t17, hlt, QL, seval]) | (with_reducible (first | refine Qd fun K hK => ?_ | refine Qi ?_ | refine QC ?_ | refine Qb ?_ | refine Qw ?_ | refine Qy ?_)) | ((with_reducible refine hK _ ?_); clear hK) | (clear hK; (with_reducible refine hK _ ?_); clear hK) | (refine Qg rfl ?_; simp only [↓reduceIte, QpQ]))
   obtain ⟨I, hI⟩ : ∃ I : Nat → AS → Prop, I = fun m' s => ∃ (j : Nat) (L : AH), m' = b.length - j ∧ j ≤ b.length ∧ Zh b b = Zh b (b.drop j) ∧ s.tm 3 = .mp h.length ∧ s.tm 56 = .sl 5 (bavs b) none ∧ s.tm 57 = .i b.length ∧ s.tm 58 = .i j ∧ s.h = h ++ ([.map (imap (bmap b))] ++ L) := ⟨_, rfl⟩; refine QI I ?_ (m := b.length) ?_
   ·have hO := hI
    intro m' s hs; rw [hI] at hs; obtain ⟨tm, hp⟩ := s; dsimp only at hs; obtain ⟨j, L, rfl, hj, hr2, t3, t56, t57, t58, rfl⟩ := hs
    by_cases hlt : j < b.length
    ·rw [List.drop_eq_getElem_cons hlt] at hr2
     have hbj := ho b[j] (List.getElem_mem hlt)
     have hnn : b[j].2.nds ≤ 1000000 := hn b[j] (List.getElem_mem hlt)
     have c2 := QfX b[j].2 hnn hbj.2
     rw [T.Qo7] at c2
     have hvl : (XT b[j].2).length ≤ 1000000 := Qaj _ hnn
     change Pure _ _ _ (.sl 1 (ints (XT b[j].2)) none) at c2
     repeat (first | ((first | (with_reducible (first | refine Qa fun K E hK hE => ?_ | refine Qp c2 ?_))); simp -implicitDefEqProofs only [Qe, Qf, OpW, QK, aop, undef, AS.ev, AV.QoY, ↓reduceIte, Qm, QA, QB, QO, QH, Qt, aBin, aLen, goInt, ei23, ti41, un49, ti52, Zc, zi52, t56, t57, t58, hlt, QL, QY hlt, QN, Xh, seval]) | (with_reducible (first | refine Qd fun K hK => ?_ | refine Qi ?_ | refine Qn ?_ | refine Qb ?_)) | ((with_reducible refine hK _ ?_); clear hK) | (refine Qg rfl ?_; simp only [↓reduceIte]))
     obtain ⟨I, hI⟩ : ∃ I : Nat → AS → Prop, I = fun m' s => ∃ (k : Nat) (M : AH), m' = (XT b[j].2).length - k ∧ k ≤ (XT b[j].2).length ∧ ((XT b[j].2).all fun v => !bound b v) = (((XT b[j].2).drop k).all fun v => !bound b v) ∧ s.tm 3 = .mp h.length ∧ s.tm 56 = .sl 5 (bavs b) none ∧ s.tm 57 = .i b.length ∧ s.tm 58 = .i j ∧ s.tm 64 = .sl 1 (ints (XT b[j].2)) none ∧ s.tm 65 = .i (XT b[j].2).length ∧ s.tm 66 = .i k ∧ s.h = h ++ ([.map (imap (bmap b))] ++ M) := ⟨_, rfl⟩; refine QI I ?_ (m := (XT b[j].2).length) ?_
     ·intro m' s hs; rw [hI] at hs; obtain ⟨tm, hp⟩ := s; dsimp only at hs; obtain ⟨k, M, rfl, hk, hr3, t3, t56, t57, t58, t64, t65, t66, rfl⟩ := hs
      by_cases hkl : k < (XT b[j].2).length
      ·rw [List.drop_eq_getElem_cons hkl, List.all_cons] at hr3
       cases hbv : bound b (XT b[j].2)[k] with
       | true =>
        have hf : QbU (.int .i64) (.int .i64 (XT b[j].2)[k]) (imap (bmap b)) = some (some (.agg [])) := by rw [Zu, Qfb, if_pos hbv]
        have e2 : Zh b b = false := by
         rw [hr2, Zh, List.all_cons]
         rw [hr3, hbv]; rfl
        repeat (first | (((with_reducible refine Qa fun K E hK hE => ?_)); simp -implicitDefEqProofs only [Qe, Qf, OpW, aop, undef, AS.ev, AV.QoY, ↓reduceIte, QA, QB, QO, QH, Qt, aBin, Xo, Yf, ti3, ei49, Qmb, Qon, Ql3, t3, t64, t65, t66, hkl, XK hkl, hf, seval]) | (with_reducible (first | refine Qd fun K hK => ?_ | refine Qi ?_ | refine Qj ?_ | refine Qn ?_ | refine Qb ?_ | refine Qq ?_ | refine Qs ?_)) | ((with_reducible refine hK _ ?_); clear hK) | (refine Qg rfl ?_; simp only [↓reduceIte]))
        simp only [QD, Ql, Qr, upd, ↓reduceIte, QpS, QpW]; first | refine Qc (htake _ _) (.keep (.v _)) ⟨by rw [rightS, e2, Bool.and_false], rfl⟩ | refine Qc List.take_length (.keep (.v _)) ⟨by rw [rightS, e2, Bool.and_false], rfl⟩
       | false =>
        have hf : QbU (.int .i64) (.int .i64 (XT b[j].2)[k]) (imap (bmap b)) = some none := by rw [Zu, Qfb, if_neg (by rw [hbv]; decide)]
        repeat (first | ((first | (with_reducible (first | refine Qa fun K E hK hE => ?_ | refine Qk fun K E hK hE => ?_))); simp -implicitDefEqProofs only [Qe, Qf, OpW, aop, undef, AS.ev, AV.QoY, ↓reduceIte, QA, QB, QO, QH, Qt, aBin, Xo, Yf, ti3, ei49, Qmb, Qon, Ql3, t3, t64, t65, t66, hkl, XK hkl, hf, seval]) | (with_reducible (first | refine Qd fun K hK => ?_ | refine Qi ?_ | refine Qn ?_ | refine Qb ?_ | refine Qo ?_)) | ((with_reducible refine hK _ ?_); clear hK) | (refine Qg rfl ?_; simp only [↓reduceIte, QpQ]))
        refine QV.mk (m' := (XT b[j].2).length - (k + 1)) (by omega) ?_
        rw [hI]
        refine ⟨k + 1, _, rfl, hkl, ?_, t3, t56, t57, t58, t64, t65, ?_, rfl⟩
        ·rw [hr3, hbv]; rfl
        ·simp only [upd, ↓reduceIte]
         rw [QP (by omega)]
      ·have hke : k = (XT b[j].2).length := by omega
       rw [hke, List.drop_length] at hr3
       repeat (first | ((first | (with_reducible (first | refine Qa fun K E hK hE => ?_ | refine Qk fun K E hK hE => ?_))); simp -implicitDefEqProofs only [Qe, Qf, OpW, aop, AS.ev, ↓reduceIte, aBin, t58, t65, t66, hkl, seval]) | (with_reducible (first | refine Qd fun K hK => ?_ | refine QC ?_ | refine Qb ?_ | refine Qw ?_ | refine Qo ?_ | refine Qy ?_)) | ((with_reducible refine hK _ ?_); clear hK) | (clear hK; (with_reducible refine hK _ ?_); clear hK) | (refine Qg rfl ?_; simp only [↓reduceIte, QpQ]))
       refine QV.mk (m' := b.length - (j + 1)) (by omega) ?_
       rw [hO]
       refine ⟨j + 1, M, rfl, hlt, ?_, t3, t56, t57, ?_, rfl⟩
       ·rw [hr2, Zh, List.all_cons, hr3]; rfl
       ·simp only [upd, ↓reduceIte]
        rw [QP (by omega)]
     ·rw [hI]
      exact ⟨0, _, by omega, Nat.zero_le _, rfl, t3, t56, t57, t58, rfl, by simp only [upd, ↓reduceIte, Nat.reduceEqDiff], rfl, rfl⟩
    ·have hjl : j = b.length := by omega
     rw [hjl, List.drop_length] at hr2
     repeat (first | (((with_reducible refine Qa fun K E hK hE => ?_)); simp -implicitDefEqProofs only [Qe, Qf, OpW, aop, AS.ev, Nat.reduceLT, aBin, t57, t58, hlt]) | (with_reducible (first | refine Qd fun K hK => ?_ | refine Qj ?_ | refine QC ?_ | refine Qb ?_ | refine Qw ?_ | refine Qy ?_)) | ((with_reducible refine hK _ ?_); clear hK) | (clear hK; (with_reducible refine hK _ ?_); clear hK) | (refine Qg rfl ?_; simp only [↓reduceIte, QpQ]))
     simp only [QD, Ql, Qr, upd, ↓reduceIte, QpS, QpW]; first | refine Qc (htake _ _) (.keep (.v _)) ⟨by rw [rightS, e, hr2]; rfl, rfl⟩ | refine Qc List.take_length (.keep (.v _)) ⟨by rw [rightS, e, hr2]; rfl, rfl⟩
   ·rw [hI]
    exact ⟨0, L, by omega, Nat.zero_le _, rfl, t3, rfl, by simp only [upd, ↓reduceIte, Nat.reduceEqDiff], rfl, rfl⟩
 ·rw [hI]
  exact ⟨0, [], by omega, Nat.zero_le _, rfl, fun k hk => by omega, rfl, rfl, rfl, rfl, rfl, by simp [bmap, imap]⟩
theorem QkY {P : Program} {f : FuncId} {fn : Func} (hf : P.funcs[f]? = some fn) (hname : (fn.name == "runtime.NumGoroutine") = false) (hbn : fn.body.isNone = true) (hn : Extern.findNext fn = none)
  (he : Extern.find fn = some Extern.AbiNoEscape.same) {y : AV} {h : AH} : FunW P (.fn (.func f) [] []) [y] h fun o h' => o = .ret y ∧ h' = h := by
 intro F n c v vals hF hst hh hv hvs o a next Qx h1 h2
 subst hh
 cases hv with
 | fn _ _ _ vs ws e1 e2 hv1 hv2 =>
  have hvs0 : vs = #[] := Array.eq_empty_of_size_eq_zero e1
  have hws0 : ws = #[] := Array.eq_empty_of_size_eq_zero e2
  subst hvs0; subst hws0
  obtain ⟨x, hx⟩ := Y7 hvs.1 (show 0 < [y].length by simp)
  have hvals : vals = #[x] := by
   apply Array.ext'
   have hl : vals.toList.length = 1 := by simpa using hvs.1
   apply List.ext_getElem?
   intro j
   match j with
   | 0 => simpa using hx
   | j + 1 => rw [List.getElem?_eq_none (by omega)]; simp
  have hrx := hvs.2 0 _ x rfl hx
  subst hvals
  have hcall := run_callFunc_extern (P := P) hf hname hbn hn he #[x] c.w
  rw [show (Extern.AbiNoEscape.same #[x]).run P c.w = .ok x c.w from rfl] at hcall
  simp only [Deferred.ofValue, Sem.run_bind, Sem.run_pure, Result.andThen_ok, invoke, Array.empty_append, Array.append_empty, hcall]
  exact h1 _ c _ ⟨rfl, rfl⟩ (Ev.refl c) hst hrx
theorem Zl (s t : ByteArray) : Q7 (s ++ t) = Q7 s ++ Q7 t := by
 simp only [Q7, ByteArray.data_append, Array.toList_append, List.map_append]
theorem QdM (s : ByteArray) : ZO (Q7 s) = some s.data.toList := by rw [Qjr, Qbs]
theorem QJ (s t : ByteArray) : (s ++ t).size = s.size + t.size := ByteArray.size_append
theorem Qi1 {s : ByteArray} (h : 0 < s.size) : ∃ y ys, Q7 s = y :: ys := by
 cases hs : Q7 s with
 | nil => have := XE s; rw [hs] at this; simp at this; omega
 | cons y ys => exact ⟨y, ys, rfl⟩
theorem Qhq {P : Program} {t t' e : TypeId} {i : TypeInfo} {z : Value} (ht : P.underlying t = some (.slice e)) (ht' : P.underlying t' = some .string) (hi : P.info? e = some i) (hz : i.zero = some z) (h1 : i.size = 1) (h2 : i.bytes = 1) (h3 : z.cells.size = 1)
  {T s : ByteArray} {j : Nat} {h : AH} (hj : h[j]? = some (.grow e 1 T.size)) (hs : T.size + s.size ≤ 140737488355328) :
  Qaz P t t' (.sl 1 (Q7 T) (some j)) s h = some (.sl 1 (Q7 (T ++ s)) (some j), h.set j (.grow e 1 (T ++ s).size)) := by
 unfold Qaz
 simp only [ht, ht', hi, hz, h1, h2, h3, Qqk, if_true, hj, XE, QJ, Zl]
 by_cases h0 : 0 < s.size
 ·rw [if_pos (by simp only [h0, hs, Qqk])]
 ·have h0' : s.size = 0 := by omega
  rw [if_neg (fun e => h0 e.1), if_pos (by simp only [h0', Qqk])]
  have hn : Q7 s = [] := by
   have := XE s
   rw [h0'] at this
   exact List.length_eq_zero_iff.1 this
  rw [hn, List.append_nil, h0', Nat.add_zero]
  congr 2
  apply List.ext_getElem?
  intro k
  rw [List.getElem?_set]
  split
  ·rename_i hk; subst hk; rw [hj]; simp [QF hj]
  ·rfl
theorem Qcz {P : Program} {pt e : TypeId} (ht : P.underlying pt = some (.pointer e)) (he : P.cellsOf e = 1) {T : ByteArray} {j : Nat} {h : AH} (hj : h[j]? = some (.grow e 1 T.size)) (h0 : 0 < T.size) (hs : T.size ≤ 9223372036854775807) :
  Yt P pt (.spt 1 (Q7 T) (some j)) (.v (.int .i64 (T.size : Nat))) h = some (.v (.string T), h.set j .gone) := by
 unfold Yt
 simp only [hj, QdM, ht, XE]
 rw [if_pos (by simp only [h0, he, hs, Qqk])]
theorem QcD {T : ByteArray} (h0 : 0 < T.size) (j : Nat) : Qau (.sl 1 (Q7 T) (some j)) = some (.spt 1 (Q7 T) (some j)) := by
 obtain ⟨y, ys, e⟩ := Qi1 h0
 rw [e]; rfl
def bw (ty i j : Nat) (u : Bool) (T : ByteArray) : AB := .cells ty 2 [.agg [if u then .ptr i 0 0 else .v (.pointer none), .sl 1 (Q7 T) (some j)]]
theorem bw0 (ty i j : Nat) (T : ByteArray) : bw ty i j false T = .cells ty 2 [.agg [.v (.pointer none), .sl 1 (Q7 T) (some j)]] := rfl
theorem bw1 (ty i j : Nat) (T : ByteArray) : bw ty i j true T = .cells ty 2 [.agg [.ptr i 0 0, .sl 1 (Q7 T) (some j)]] := rfl
theorem Qms {ty i j n : Nat} {u : Bool} {T : ByteArray} (hi : i < n) (hj : j < n) : (bw ty i j u T).Below n := by
 have hsl : Ab.Below n (.sl 1 (Q7 T) (some j)) := by
  refine .sl _ _ _ (fun y hy => ?_) fun b hb => by cases hb; exact hj
  rw [Z0] at hy
  obtain ⟨b, _, rfl⟩ := List.mem_map.1 hy
  exact .v _
 cases u
 ·intro x hx
  have hx' : x ∈ [.v (.pointer none), .sl 1 (Q7 T) (some j)] := hx
  simp only [List.mem_cons, List.not_mem_nil, or_false] at hx'
  rcases hx' with rfl | rfl
  ·exact .v _
  ·exact hsl
 ·intro x hx
  have hx' : x ∈ [.ptr i 0 0, .sl 1 (Q7 T) (some j)] := hx
  simp only [List.mem_cons, List.not_mem_nil, or_false] at hx'
  rcases hx' with rfl | rfl
  ·exact .ptr _ _ _ hi
  ·exact hsl
def Wr (P : Program) (e ty : TypeId) (f : FuncId) (args : List AV) (i j : Nat) (u : Bool) (T : ByteArray) (r : AV) (u' : Bool) (T' : ByteArray) : Prop :=
 Chg2 P f args i (bw ty i j u T) j (.grow e 1 T.size) r (bw ty i j u' T') (.grow e 1 T'.size)
theorem Qnx {c : Cx} (hs : St c) {s : Nat} {k : AB} (hk : k = .dead ∨ ∃ e, k = .grow e s 0) : Ev c (c.add c.w k none) ∧ St (c.add c.w k none) := by
 have hg := Grows.refl c.w
 have ho : ∀ B, (none : Option Nat) = some B → c.w.heap.size ≤ B := fun B h => by cases h
 have hρ : (c.add c.w k none).ρ c.h.length = none := by simp [Cx.add]
 refine ⟨Ev.add hs hg k none ho, St.add hs hg _ _ ho ?_⟩
 rcases hk with rfl | ⟨e, rfl⟩
 ·trivial
 ·exact fun B hB => by rw [hρ] at hB; cases hB
theorem QnF {c : Cx} (hst : St c) {id ty n s : Nat} {k : AB} (hk : k = .dead ∨ ∃ e, k = .grow e s 0) {xs xs' : List AV} {j : Nat} (hb : c.h[id]? = some (.cells ty n xs)) (hj : (flat xs)[j]? = some (.v (.slice none 0 0)))
  (hf : flat xs' = (flat xs).set j (.sl s [] (some c.h.length))) (hc : ∀ x ∈ xs', x.cells.length = n) :
  ∃ c2, Ev c c2 ∧ St c2 ∧ c2.h = (c.h ++ [k]).set id (AB.cells ty n xs') ∧ c2.w = c.w := by
 obtain ⟨hev, hst1⟩ := Qnx hst hk
 have hlt := QF hb
 have hb1 : (c.add c.w k none).h[id]? = some (.cells ty n xs) := by
  simp only [Cx.add]; rw [List.getElem?_append_left hlt]; exact hb
 obtain ⟨B, cur, hρ, hcur, h3, h4⟩ := hst1.blocks id _ hb1
 have hev2 := Ev.turn (b' := .cells ty n xs') hst1 hb1 rfl hρ (w := c.w) rfl rfl rfl rfl (fun _ _ => rfl) (.inr ⟨_, rfl, rfl, fun _ cur _ h => ⟨cur, h, rfl⟩⟩)
 have htok : ((c.add c.w k none).turn c.w id (.cells ty n xs')).tokNil c.h.length s := by
  refine ⟨by simp [Cx.turn, Cx.add], fun e2 s2 n2 hg2 => ?_⟩
  simp only [Cx.turn, Cx.add] at hg2
  rw [List.getElem?_set_ne (by omega), List.getElem?_append_right (Nat.le_refl _), Nat.sub_self] at hg2
  rcases hk with rfl | ⟨e, rfl⟩
  ·simp at hg2
  ·simp at hg2
   exact ⟨hg2.2.1.symm, fun _ => by simp [Cx.turn, Cx.add]⟩
 have hst2 := St.turn (b' := .cells ty n xs') hst1 hb1 rfl hρ (w := c.w) (fun _ _ => rfl) hev2 ⟨B, cur, hρ, hcur, hc, by
  intro i a' hi
  rw [hf] at hi
  by_cases e : j = i
  ·subst e
   rw [List.getElem?_set_self (QF hj)] at hi
   cases hi
   obtain ⟨u, g1, g2, g3⟩ := h4 j _ hj
   cases g3
   exact ⟨_, g1, g2, .slnil _ _ fun b hb => by cases hb; exact htok⟩
  ·rw [List.getElem?_set_ne e] at hi
   obtain ⟨u, g1, g2, g3⟩ := h4 i _ hi
   exact ⟨u, g1, g2, g3.ev hst1 hev2⟩⟩
 exact ⟨_, Ev.trans hst hev hev2, hst2, rfl, rfl⟩
theorem ZF {P : Program} {N : Nat} {code : Code} {Q : AExit → AS → Prop} {tm : Nat → AV} {h : AH} (id ty n s : Nat) (k : AB) (hk : k = .dead ∨ ∃ e, k = .grow e s 0) (xs xs' : List AV) (j : Nat) (hb : h[id]? = some (.cells ty n xs))
  (hj : (flat xs)[j]? = some (.v (.slice none 0 0))) (hf : flat xs' = (flat xs).set j (.sl s [] (some h.length))) (hc : ∀ x ∈ xs', x.cells.length = n)
  (H : Xz P N code Q ⟨tm, (h ++ [k]).set id (AB.cells ty n xs')⟩) : Xz P N code Q ⟨tm, h⟩ := by
 intro F m base c a hF hst hr R hR
 have hh : c.h = h := hr.h
 subst hh
 obtain ⟨c2, hev, hst2, hh2, hw⟩ := QnF hst hk hb hj hf hc
 rw [← hw]
 exact H F m base c2 a hF hst2 ⟨hh2, hr.size, Nat.le_trans hr.above hev.size, hr.defers.ev hev, RoundOk.ev hev hr.round, fun t => (hr.tm t).ev hst hev⟩ R fun e' s' c' a' ex hq h1 h2 h3 h4 => hR e' s' c' a' ex hq (Ev.trans hst hev h1) h2 h3 h4
def fidx (p : Int → Bool) : List Int → Option Nat
 | [] => none
 | a :: l => if p a = true then some 0 else (fidx p l).map (· + 1)
def QhN (p : Int → Bool) (l : List Int) : Int := match fidx p l with | some i => i | none => -1
theorem Qgl {p : Int → Bool} : ∀ {l : List Int}, fidx p l = none → l.filter (fun v => !p v) = l
 | [], _ => rfl
 | a :: l, h => by
  simp only [fidx] at h
  cases ha : p a with
  | true => simp [ha] at h
  | false =>
   simp only [ha, QpQ, ↓reduceIte, Option.map_eq_none_iff] at h
   rw [List.filter_cons_of_pos (by rw [ha]; rfl), Qgl h]
theorem Qg8 {p : Int → Bool} : ∀ {l : List Int} {i : Nat}, fidx p l = some i → i < l.length ∧ (l.take (i + 1)).filter (fun v => !p v) = l.take i
 | [], i, h => by simp [fidx] at h
 | a :: l, i, h => by
  simp only [fidx] at h
  cases ha : p a with
  | true =>
   simp only [ha, ↓reduceIte, QpS] at h
   subst h
   exact ⟨by simp, by simp [ha]⟩
  | false =>
   simp only [ha, QpQ, ↓reduceIte, Option.map_eq_some_iff] at h
   obtain ⟨k, hk, rfl⟩ := h
   obtain ⟨h1, h2⟩ := Qg8 hk
   refine ⟨by simp only [QpZ]; omega, ?_⟩
   rw [List.take_succ_cons, List.filter_cons_of_pos (by rw [ha]; rfl), h2, List.take_succ_cons]
theorem Qkx (p : Int → Bool) (l : List Int) (hb : l.length ≤ 1000000) (fv : AV) (h : AH) (id : Nat) (hid : id < h.length)
  (hv : ∀ v : Int, FunW Tryz.prog fv [.i v] (hs h id (.cells 3 1 (ints l))) fun o h' => o = .ret (.b (p v)) ∧ h' = hs h id (.cells 3 1 (ints l))) :
  Xf Tryz.prog 120 [.arr id 0 l.length, fv] (hs h id (.cells 3 1 (ints l))) fun o h' => o = .ret (.i (QhN p l)) ∧ h' = hs h id (.cells 3 1 (ints l)) := by
 have hv' : ∀ (v : Int) (C : AOut → AH → Prop), C (.ret (.b (p v))) (hs h id (.cells 3 1 (ints l))) → FunW Tryz.prog fv [.i v] (hs h id (.cells 3 1 (ints l))) C := fun v C k => (hv v).mono (by rintro _ _ ⟨rfl, rfl⟩; exact k)
 have g1 := fun x => Qc6 hid x
 refine Qh Tryz.func120 rfl Tryz.call120 Tryz.ntmps120 (congrArg Array.toList Tryz.results120) (by simp) ?_
 repeat (first | (((with_reducible refine Qa fun K E hK hE => ?_)); simp -implicitDefEqProofs only [Qe, Qf, OpW, aop, undef, AS.ev, Qv, ↓reduceIte, aLen, goInt, un49, g1, seval]) | (with_reducible (first | refine Qd fun K hK => ?_ | refine Qi ?_)) | ((with_reducible refine hK _ ?_); clear hK))
 obtain ⟨I, hI⟩ : ∃ I : Nat → AS → Prop, I = fun m' s => ∃ j : Nat, m' = l.length - j ∧ j ≤ l.length ∧ fidx p l = (fidx p (l.drop j)).map (· + j) ∧ s.tm 0 = .arr id 0 l.length ∧ s.tm 1 = fv ∧ s.tm 7 = .i l.length ∧ s.tm 8 = .i j ∧ s.h = hs h id (.cells 3 1 (ints l)) := ⟨_, rfl⟩; refine QI I ?_ (m := l.length) ?_
 ·intro m' s hs; rw [hI] at hs; obtain ⟨tm, hp⟩ := s; dsimp only at hs; obtain ⟨j, rfl, hj, he, t0, t1, t7, t8, rfl⟩ := hs
  by_cases hlt : j < l.length
  ·rw [List.drop_eq_getElem_cons hlt] at he
   simp only [fidx] at he
   have hc := hv' l[j]
   cases hz : p l[j] with
   | true =>
    rw [if_pos hz] at he
    rw [hz] at hc
    repeat (first | ((first | (with_reducible (first | refine Qa fun K E hK hE => ?_ | refine hc _ ?_))); simp -implicitDefEqProofs only [Qe, Qf, OpW, QK, aop, AS.ev, ↓reduceIte, QA, QB, Qt, aBin, ti3, ei49, t0, t1, t7, t8, hlt, XK hlt, g1, seval]) | (with_reducible (first | refine Qd fun K hK => ?_ | refine Qi ?_ | refine Qj ?_ | refine Qn ?_ | refine Qb ?_ | refine Qq ?_ | refine Qs ?_)) | ((with_reducible refine hK _ ?_); clear hK) | (refine Qg rfl ?_; simp only [↓reduceIte]))
    simp only [QD, Ql, Qr, upd, ↓reduceIte, QpS, QpW]
    refine .inr ⟨?_, rfl⟩
    simp [QhN, he]
   | false =>
    rw [if_neg (by rw [hz]; decide)] at he
    rw [hz] at hc
    repeat (first | ((first | (with_reducible (first | refine Qa fun K E hK hE => ?_ | refine Qk fun K E hK hE => ?_ | refine hc _ ?_))); simp -implicitDefEqProofs only [Qe, Qf, OpW, QK, aop, AS.ev, ↓reduceIte, QA, QB, Qt, aBin, ti3, ei49, t0, t1, t7, t8, hlt, XK hlt, g1, seval]) | (with_reducible (first | refine Qd fun K hK => ?_ | refine Qi ?_ | refine Qn ?_ | refine Qb ?_ | refine Qo ?_)) | ((with_reducible refine hK _ ?_); clear hK) | (refine Qg rfl ?_; simp only [↓reduceIte, QpQ]))
    refine QV.mk (m' := l.length - (j + 1)) (by omega) ?_
    rw [hI]
    refine ⟨j + 1, rfl, hlt, ?_, t0, t1, t7, ?_, rfl⟩
    ·rw [he, Option.map_map]
     congr 1
     funext x
     simp only [Function.comp]
     omega
    ·simp only [upd, ↓reduceIte]
     rw [QP (by omega)]
  ·have hjl : j = l.length := by omega
   rw [hjl, List.drop_length] at he
   simp only [fidx, Qqr] at he
   repeat (first | (((with_reducible refine Qa fun K E hK hE => ?_)); simp -implicitDefEqProofs only [Qe, Qf, OpW, aop, AS.ev, Nat.reduceLT, aBin, t7, t8, hlt]) | (with_reducible (first | refine Qd fun K hK => ?_ | refine Qj ?_ | refine QC ?_ | refine Qb ?_ | refine Qw ?_ | refine Qy ?_)) | ((with_reducible refine hK _ ?_); clear hK) | (clear hK; (with_reducible refine hK _ ?_); clear hK) | (refine Qg rfl ?_; simp only [↓reduceIte, QpQ]))
   simp only [QD, Ql, Qr, upd, ↓reduceIte, QpS, QpW]
   exact .inr ⟨by simp [QhN, he], rfl⟩
 ·rw [hI]
  exact ⟨0, by omega, Nat.zero_le _, by simp, rfl, rfl, rfl, rfl, rfl⟩
def zeros (n : Nat) : List AV := List.replicate n (.i 0)
theorem QjH (F js : List Int) (id : Nat) (h : AH) (hg : h[id]? = some (.cells 3 1 (ints (F ++ js)))) :
  Qev Tryz.prog 49 (.arr id F.length js.length) h = some (.tup [], h.set id (.cells 3 1 (ints F ++ zeros js.length))) := by
 have hE : Q5 Tryz.prog 49 = some (3, 1) := by kernel_rfl
 have hz : ((Tryz.prog).info? 3).bind (·.zero) = some (.int .i64 0) := by kernel_rfl
 cases hi : (Tryz.prog).info? 3 with
 | none => rw [hi] at hz; cases hz
 | some i =>
  rw [hi] at hz
  replace hz : i.zero = some (.int .i64 0) := hz
  have hlen : F.length + js.length ≤ (ints (F ++ js)).length := by rw [Xb, List.length_append]; exact Nat.le_refl _
  have e1 : (ints (F ++ js)).take F.length = ints F := by rw [XI, ← Xb F, List.take_left]
  have e2 : (ints (F ++ js)).drop (F.length + js.length) = [] := List.drop_eq_nil_of_le (by rw [Xb, List.length_append]; exact Nat.le_refl _)
  simp only [Qev, hE, hi, hz, hg]
  rw [if_pos ⟨trivial, trivial, rfl, hlen⟩, e1, e2, List.append_nil]
  rfl
theorem Qjq (p : Int → Bool) (l : List Int) (hb : l.length ≤ 1000000) (fv : AV) (h : AH) (id : Nat) (hid : id < h.length)
  (hv : ∀ (l : List Int) (v : Int), FunW Tryz.prog fv [.i v] (hs h id (.cells 3 1 (ints l))) fun o h' => o = .ret (.b (p v)) ∧ h' = hs h id (.cells 3 1 (ints l))) :
  Xf Tryz.prog 76 [.arr id 0 l.length, fv] (hs h id (.cells 3 1 (ints l))) fun o h' =>
   o = .ret (.arr id 0 (l.filter fun v => !p v).length) ∧ ∃ k, h' = hs h id (.cells 3 1 (ints (l.filter fun v => !p v) ++ zeros k)) := by
 have hv' : ∀ (l : List Int) (v : Int) (C : AOut → AH → Prop), C (.ret (.b (p v))) (hs h id (.cells 3 1 (ints l))) → FunW Tryz.prog fv [.i v] (hs h id (.cells 3 1 (ints l))) C := fun l v C k => (hv l v).mono (by rintro _ _ ⟨rfl, rfl⟩; exact k)
 have g1 := fun x => Qc6 hid x
 have g2 := fun x y => QfY hid x y
 have c1 := Qkx p l hb fv h id hid (hv l)
 cases hf : fidx p l with
 | none =>
  have e : QhN p l = -1 := by simp [QhN, hf]
  rw [e] at c1
  have en := Qgl hf
  refine Qh Tryz.func76 rfl Tryz.call76 Tryz.ntmps76 (congrArg Array.toList Tryz.results76) (by simp) ?_
  repeat (first | ((first | (with_reducible (first | refine Qa fun K E hK hE => ?_ | refine FunW.ret (FunW.call c1) ?_))); simp -implicitDefEqProofs only [Qe, Qf, OpW, QK, aop, undef, AS.ev, Qv, ↓reduceIte, aBin, seval]) | (with_reducible (first | refine Qd fun K hK => ?_ | refine Qj ?_ | refine Qq ?_)) | ((with_reducible refine hK _ ?_); clear hK) | (refine Qg rfl ?_; simp only [↓reduceIte]))
  simp only [QD, Ql, Qr, upd, ↓reduceIte, QpS, QpW]
  exact .inr ⟨by rw [en], 0, by rw [en]; simp [zeros]⟩
 | some i =>
  have e : QhN p l = (i : Int) := by simp [QhN, hf]
  rw [e] at c1
  obtain ⟨hil, htk⟩ := Qg8 hf
  have hne : ((i : Int) == -1) = false := by simp
  refine Qh Tryz.func76 rfl Tryz.call76 Tryz.ntmps76 (congrArg Array.toList Tryz.results76) (by simp) ?_
  repeat (first | ((first | (with_reducible (first | refine Qa fun K E hK hE => ?_ | refine FunW.ret (FunW.call c1) ?_))); simp -implicitDefEqProofs only [Qe, Qf, OpW, QK, aop, undef, AS.ev, Qv, ↓reduceIte, aBin, hne, seval]) | (with_reducible (first | refine Qd fun K hK => ?_ | refine Qi ?_ | refine Qn ?_ | refine Qb ?_)) | ((with_reducible refine hK _ ?_); clear hK) | (refine Qg rfl ?_; simp only [↓reduceIte, QpQ]))
  obtain ⟨I, hI⟩ : ∃ I : Nat → AS → Prop, I = fun m' s => ∃ (j : Nat) (js : List Int), m' = l.length - j ∧ j ≤ l.length ∧ ((l.take j).filter fun v => !p v).length + js.length = j ∧ js ≠ [] ∧ s.tm 0 = .arr id 0 l.length ∧ s.tm 1 = fv ∧ s.tm 5 = .i ((l.take j).filter fun v => !p v).length ∧ s.tm 6 = .i j ∧ s.h = hs h id (.cells 3 1 (ints (((l.take j).filter fun v => !p v) ++ js ++ l.drop j))) := ⟨_, rfl⟩; refine QI I ?_ (m := l.length - (i + 1)) ?_
  ·intro m' s hs; rw [hI] at hs; obtain ⟨tm, hp⟩ := s; dsimp only at hs; obtain ⟨j, js, rfl, hj, hjs, hjn, t0, t1, t5, t6, rfl⟩ := hs
   have hln : (((l.take j).filter fun v => !p v) ++ js ++ l.drop j).length = l.length := by
    rw [List.length_append, List.length_append, hjs, List.length_drop]; omega
   by_cases hlt : j < l.length
   ·have hlt' : j < (((l.take j).filter fun v => !p v) ++ js ++ l.drop j).length := by omega
    have hge : (ints (((l.take j).filter fun v => !p v) ++ js ++ l.drop j))[j]? = some (.i l[j]) := by
     rw [XK hlt', List.getElem_append_right (by rw [List.length_append]; omega)]
     simp [hjs]
    have hts : (l.take (j + 1)) = l.take j ++ [l[j]] := List.take_succ_eq_append_getElem hlt
    have hds : l.drop j = l[j] :: l.drop (j + 1) := List.drop_eq_getElem_cons hlt
    have hc := hv' (((l.take j).filter fun v => !p v) ++ js ++ l.drop j) l[j]
    cases hz : p l[j] with
    | true =>
     rw [hz] at hc
     repeat (first | ((first | (with_reducible (first | refine Qa fun K E hK hE => ?_ | refine Qk fun K E hK hE => ?_ | refine hc _ ?_))); simp -implicitDefEqProofs only [Qe, Qf, OpW, QK, aop, AS.ev, ↓reduceIte, QA, QB, Qt, aBin, aLen, goInt, ti3, ei49, un49, t0, t1, t6, hlt, hge, g1, seval]) | (with_reducible (first | refine Qd fun K hK => ?_ | refine Qi ?_ | refine Qn ?_ | refine Qb ?_ | refine Qo ?_)) | ((with_reducible refine hK _ ?_); clear hK) | (refine Qg rfl ?_; simp only [↓reduceIte, QpQ]))
     refine QV.mk (m' := l.length - (j + 1)) (by omega) ?_
     rw [hI]
     have ef : (l.take (j + 1)).filter (fun v => !p v) = (l.take j).filter fun v => !p v := by rw [hts, List.filter_append]; simp [hz]
     refine ⟨j + 1, js ++ [l[j]], rfl, hlt, by rw [ef, List.length_append, List.length_singleton]; omega, by simp, t0, t1, by rw [ef]; exact t5, ?_, ?_⟩
     ·simp only [upd, ↓reduceIte]
      rw [QP (by omega)]
     ·rw [ef, hds]; simp
    | false =>
     rw [hz] at hc
     obtain ⟨a, js', rfl⟩ : ∃ a js', js = a :: js' := by cases js with | nil => exact absurd rfl hjn | cons a js' => exact ⟨a, js', rfl⟩
     have hi2 : ((l.take j).filter fun v => !p v).length < l.length := by simp only [QpZ] at hjs; omega
     have hst : (ints (((l.take j).filter fun v => !p v) ++ (a :: js') ++ l.drop j)).set ((l.take j).filter fun v => !p v).length (.i l[j]) = ints (((l.take j).filter fun v => !p v) ++ (l[j] :: js') ++ l.drop j) := by
      simp only [ints, List.map_append, Qp1, List.append_assoc]
      rw [List.set_append_right _ _ (by rw [List.length_map]; exact Nat.le_refl _), List.length_map, Nat.sub_self]
      rfl
     have hgi : (ints (((l.take j).filter fun v => !p v) ++ (a :: js') ++ l.drop j))[((l.take j).filter fun v => !p v).length]? = some (.i a) := by
      simp only [ints, List.map_append, Qp1, List.append_assoc]
      rw [List.getElem?_append_right (by rw [List.length_map]; exact Nat.le_refl _), List.length_map, Nat.sub_self]
      rfl
     repeat (first | ((first | (with_reducible (first | refine Qa fun K E hK hE => ?_ | refine Qk fun K E hK hE => ?_ | refine hc _ ?_))); simp -implicitDefEqProofs only [Qe, Qf, OpW, QK, aop, undef, AS.ev, AV.QoY, ↓reduceIte, QA, QB, QO, QH, Qt, aBin, aLen, goInt, ti3, ei49, un49, t0, t1, t5, t6, hlt, hge, hgi, hi2, g1, g2, hst, seval]) | (with_reducible (first | refine Qd fun K hK => ?_ | refine Qi ?_ | refine Qn ?_ | refine Qb ?_ | refine Qo ?_)) | ((with_reducible refine hK _ ?_); clear hK) | (refine Qg rfl ?_; simp only [↓reduceIte]))
     refine QV.mk (m' := l.length - (j + 1)) (by omega) ?_
     rw [hI]
     have ef : (l.take (j + 1)).filter (fun v => !p v) = ((l.take j).filter fun v => !p v) ++ [l[j]] := by rw [hts, List.filter_append]; simp [hz]
     refine ⟨j + 1, js' ++ [l[j]], rfl, hlt, by rw [ef]; simp only [QqD, QpZ, Qp0] at hjs ⊢; omega, by simp, t0, t1, ?_, ?_, ?_⟩
     ·simp only [upd, ↓reduceIte, Nat.reduceEqDiff]
      rw [ef, List.length_append, QP (by omega)]; rfl
     ·simp only [upd, ↓reduceIte]
      rw [QP (by omega)]
     ·rw [ef, hds]; simp
   ·have hjl : j = l.length := by omega
    subst hjl
    rw [List.take_length] at hjs t5 hln ⊢
    rw [List.drop_length, List.append_nil] at hln ⊢
    have hjp : 0 < js.length := List.length_pos_iff.2 hjn
    have hlt2 : (l.filter fun v => !p v).length < l.length := by omega
    have hle : (l.filter fun v => !p v).length ≤ l.length := by omega
    have hsub : ((l.length : Int) - ((l.filter fun v => !p v).length : Int)).toNat = js.length := by omega
    have hcl := QjH (l.filter fun v => !p v) js id (hs h id (.cells 3 1 (ints ((l.filter fun v => !p v) ++ js)))) (g1 _)
    rw [g2] at hcl
    by_cases hF : (l.filter fun v => !p v).length = 0
    ·have hlp : 0 < l.length := by omega
     have hlpI : (0 : Int) < (l.length : Int) := by omega
     have hz1 : ¬ (0 : Int) < 0 := by decide
     have hjl : js.length = l.length := by omega
     rw [hF] at hcl t5
     rw [hjl] at hcl
     repeat (first | (((with_reducible refine Qa fun K E hK hE => ?_)); simp -implicitDefEqProofs only [Qe, Qf, OpW, aop, AS.ev, ↓reduceIte, aBin, Z6, Xj, aLen, goInt, ei49, un49, Qqz, Int.sub_zero, t0, t5, t6, hlt, g1, hlp, hlpI, hcl, hz1, seval]) | (with_reducible (first | refine Qd fun K hK => ?_ | refine Qj ?_ | refine QC ?_ | refine Qb ?_ | refine Qw ?_ | refine Qy ?_)) | ((with_reducible refine hK _ ?_); clear hK) | (clear hK; (with_reducible refine hK _ ?_); clear hK) | (refine Qg rfl ?_; simp only [↓reduceIte, QpQ]))
     simp only [QD, Ql, Qr, upd, ↓reduceIte, QpS, QpW]
     exact .inr ⟨by rw [hF], l.length, rfl⟩
    ·have hFp : (0 : Int) < (((l.filter fun v => !p v).length : Nat) : Int) := by omega
     repeat (first | (((with_reducible refine Qa fun K E hK hE => ?_)); simp -implicitDefEqProofs only [Qe, Qf, OpW, aop, AS.ev, ↓reduceIte, aBin, Z6, Xj, aLen, goInt, ei49, un49, Qqz, Int.sub_zero, t0, t5, t6, hlt, g1, hlt2, hle, hsub, hcl, hFp, seval]) | (with_reducible (first | refine Qd fun K hK => ?_ | refine Qj ?_ | refine QC ?_ | refine Qb ?_ | refine Qw ?_ | refine Qy ?_)) | ((with_reducible refine hK _ ?_); clear hK) | (clear hK; (with_reducible refine hK _ ?_); clear hK) | (refine Qg rfl ?_; simp only [↓reduceIte, QpQ]))
     simp only [QD, Ql, Qr, upd, ↓reduceIte, QpS, QpW]
     exact .inr ⟨rfl, js.length, rfl⟩
  ·rw [hI]
   have h1 : (l.take (i + 1)).filter (fun v => !p v) = l.take i := htk
   refine ⟨i + 1, [l[i]], rfl, hil, by rw [h1, List.length_take, List.length_singleton]; omega, by simp, rfl, rfl, ?_, ?_, ?_⟩
   ·rw [h1, List.length_take, Nat.min_eq_left (by omega)]; rfl
   ·simp only [upd, ↓reduceIte]
    rw [QP (by omega)]
   ·rw [h1]
    have : l.take i ++ [l[i]] ++ l.drop (i + 1) = l := by rw [← List.take_succ_eq_append_getElem hil, List.take_append_drop]
    rw [this]
theorem T.cells4 (t : T) : t.av.cells.length = 4 := by rw [T.Qo3]; rfl
theorem Ql7 (n : ByteArray) (l : List T) (own : Option Nat) (h : AH) (ho : ∀ b, own = some b → b < h.length) : Xf Tryz.prog 75 [.v (.string n), .sl 4 (avs l) own] h fun o h' => o = .ret (.agg [.i 2, .i 0, .v (.string n), .sl 4 (avs l) own]) ∧ h' = h := by
 refine Qh Tryz.func75 rfl Tryz.call75 Tryz.ntmps75 (congrArg Array.toList Tryz.results75) (by simp) ?_
 repeat (first | (((with_reducible refine Qa fun K E hK hE => ?_)); simp -implicitDefEqProofs only [Qe, Qf, OpW, aop, undef, AS.ev, Qv, AV.QoY, ↓reduceIte, QO, QH, XA, XV, ti41, zi41, sp41, seval]) | (with_reducible refine Qj ?_) | ((with_reducible refine hK _ ?_); clear hK))
 simp -implicitDefEqProofs only [Qe, ↓reduceIte, QA, QB, ti41, QD, Ql, Qr, QpW, seval]
 exact Qc (htake _ _) (.keep (.agg _ (by
  intro a ha
  simp only [List.mem_cons, List.not_mem_nil, or_false] at ha
  rcases ha with rfl | rfl | rfl | rfl
  ·exact .v _
  ·exact .v _
  ·exact .v _
  ·exact .sl _ _ _ (YE _ _) ho))) ⟨rfl, rfl⟩
theorem Qf2 (vars v : Int) (p : Nat) (h : AH) (hp : h[p]? = some (.cells 3 1 [.i vars])) : Xf Tryz.prog 77 [.i v, .ptr p 0 0] h fun o h' => o = .ret (.b (decide (v < vars))) ∧ h' = h := by
 refine Qh Tryz.func77 rfl Tryz.call77 Tryz.ntmps77 (congrArg Array.toList Tryz.results77) (by simp) ?_
 repeat (first | (((with_reducible refine Qa fun K E hK hE => ?_)); simp -implicitDefEqProofs only [Qe, Qf, OpW, aop, undef, AS.ev, Qv, ↓reduceIte, QA, QB, aBin, ti3, hp, seval]) | (with_reducible refine Qj ?_) | ((with_reducible refine hK _ ?_); clear hK))
 simp only [QD, Ql, Qr, upd, ↓reduceIte, QpS, QpW]
 exact .inr ⟨rfl, rfl⟩
theorem QmR (fv : AV) : Pure Tryz.prog 120 [.sl 1 [] none, fv] (.i (-1)) := by
 intro h
 have h00 : ¬ ((0 : Int) < 0) := by decide
 refine Qh Tryz.func120 rfl Tryz.call120 Tryz.ntmps120 (congrArg Array.toList Tryz.results120) (by simp) ?_
 repeat (first | (((with_reducible refine Qa fun K E hK hE => ?_)); simp -implicitDefEqProofs only [Qe, Qf, OpW, aop, undef, AS.ev, Qv, ↓reduceIte, aLen, goInt, un49, seval]) | (with_reducible (first | refine Qd fun K hK => ?_ | refine Qi ?_)) | ((with_reducible refine hK _ ?_); clear hK))
 obtain ⟨I, hI⟩ : ∃ I : Nat → AS → Prop, I = fun m' s => m' = 0 ∧ s.tm 7 = .i 0 ∧ s.tm 8 = .i 0 ∧ s.h = h := ⟨_, rfl⟩; refine QI I ?_ (m := 0) ?_
 ·intro m' s hs; rw [hI] at hs; obtain ⟨tm, hp⟩ := s; dsimp only at hs; obtain ⟨rfl, t7, t8, rfl⟩ := hs
  repeat (first | (((with_reducible refine Qa fun K E hK hE => ?_)); simp -implicitDefEqProofs only [Qe, Qf, OpW, aop, AS.ev, Nat.reduceLT, aBin, t7, t8, h00]) | (with_reducible (first | refine Qd fun K hK => ?_ | refine Qj ?_ | refine QC ?_ | refine Qb ?_ | refine Qw ?_ | refine Qy ?_)) | ((with_reducible refine hK _ ?_); clear hK) | (clear hK; (with_reducible refine hK _ ?_); clear hK) | (refine Qg rfl ?_; simp only [↓reduceIte, QpQ]))
  simp only [QD, Ql, Qr, upd, ↓reduceIte, QpS, QpW]
  exact Qc List.take_length (.keep (.v _)) ⟨rfl, rfl⟩
 ·rw [hI]
  exact ⟨rfl, rfl, rfl, rfl⟩
theorem QkW (fv : AV) : Pure Tryz.prog 76 [.sl 1 [] none, fv] (.sl 1 [] none) := by
 intro h
 have c1 := QmR fv
 have hne : ((-1 : Int) == -1) = true := by decide
 refine Qh Tryz.func76 rfl Tryz.call76 Tryz.ntmps76 (congrArg Array.toList Tryz.results76) (by simp) ?_
 repeat (first | ((first | (with_reducible (first | refine Qa fun K E hK hE => ?_ | refine Qp c1 ?_))); simp -implicitDefEqProofs only [Qe, Qf, OpW, QK, aop, undef, AS.ev, Qv, ↓reduceIte, aBin, seval]) | (with_reducible (first | refine Qd fun K hK => ?_ | refine Qj ?_ | refine Qq ?_)) | ((with_reducible refine hK _ ?_); clear hK) | (refine Qg rfl ?_; simp only [↓reduceIte]))
 simp only [QD, Ql, Qr, upd, ↓reduceIte, QpS, QpW]
 exact Qc List.take_length (.tok (by simp [flat])) ⟨rfl, rfl⟩
def argsG (l : List G) : List T := l.flatMap fun g => g.args
theorem Qat {l : List G} {k : Nat} (h : k < l.length) : argsG (l.take (k + 1)) = argsG (l.take k) ++ (l[k]).args := by
 rw [argsG, List.take_succ_eq_append_getElem h, List.flatMap_append]; simp [argsG]
def Xi (n : Int) (vals : List T) (store : List G) : List Int := (XT (.mk 2 0 { data := #[] } (vals ++ argsG store))).filter fun v => !decide (v < n)
theorem X6 : ∀ a b : List T, ndsL (a ++ b) = ndsL a + ndsL b
 | [], b => by simp [ndsL]
 | t :: a, b => by simp only [Qqe, ndsL, X6 a b]; omega
theorem Qay : ∀ {a b : List T}, oks a → oks b → oks (a ++ b)
 | [], b, _, h => h
 | t :: a, b, h, k => ⟨h.1, Qay h.2 k⟩
theorem QbE : ∀ l : List G, ndsL (argsG l) ≤ gsN l
 | [] => by simp [argsG, ndsL]
 | g :: l => by
  have := QbE l
  rw [argsG] at this
  simp only [argsG, List.flatMap_cons, X6, gsN]; omega
theorem Qf7 : ∀ {l : List G}, (∀ g ∈ l, oks g.args) → oks (argsG l)
 | [], _ => trivial
 | g :: l, h => by
  simp only [argsG, List.flatMap_cons]
  exact Qay (h g (by simp)) (Qf7 fun x hx => h x (by simp [hx]))
theorem QbW (l : List G) (k : Nat) : ndsL (argsG (l.take k)) ≤ gsN l := by
 have h1 := QbE (l.take k)
 have h2 : ∀ (l : List G) (k : Nat), gsN (l.take k) ≤ gsN l := fun l => by
  induction l with
  | nil => intro k; simp
  | cons g l ih => intro k; cases k with
   | zero => simp [gsN]
   | succ k => simp only [QpX, gsN]; have := ih k; omega
 have := h2 l k
 omega
theorem QhA (vals : List T) (store : List G) (n : Int) (o2 : Option Nat) (i : Nat) (h : AH) (hi : i < h.length) (hn : ndsL vals + gsN store ≤ 100000) (hov : oks vals) (hos : ∀ g ∈ store, oks g.args) :
  Xf Tryz.prog 39 [.agg [.sl 4 (avs vals) (some i), .sl 2 (vs G.atom store) o2], .i n] (hs h i (.grow 41 4 vals.length)) fun o h' =>
   o = .ret (.sl 1 (ints (Xi n vals store)) none) ∧ h' = hs h i (.grow 41 4 (vals ++ argsG store).length) := by
 have f1 := fun x => Zw h i x
 have f2 := fun x => QhU (h := h) (i := i) x
 have f3 := fun x => QnL (h := h) (i := i) x
 have f4 := fun x => Qmo (h := h) (i := i) x
 have f5 := fun x => Qnr (h := h) (i := i) x
 have f6 := fun x => QhP hi x
 have f7 := fun x => QhQ hi x
 have f8 := fun x => Qc6 hi x
 have f9 := fun x => QfY hi x
 have hlv := QW vals
 have hls := Zr store
 have cF := fun L => Ql7 { data := #[] } vals (some i) (hs h i (.grow 41 4 vals.length) ++ L) (fun b hb => by cases hb; rw [List.length_append, f1]; omega)
 refine Qh Tryz.func39 rfl Tryz.call39 Tryz.ntmps39 (congrArg Array.toList Tryz.results39) (by simp) ?_
 repeat (first | ((first | (with_reducible (first | refine Qa fun K E hK hE => ?_ | refine FunW.ret (FunW.call (cF _)) ?_))); simp -implicitDefEqProofs only [Qe, Qf, OpW, QK, aop, undef, AS.ev, Qv, AV.QoY, ↓reduceIte, Qm, QA, QB, QO, QH, aLen, goInt, ti29, ti30, un30, ti41, zi41, Qls, Qly, f1, f2, f3, f5, QR, seval]) | (with_reducible (first | refine Qd fun K hK => ?_ | refine Qi ?_)) | ((with_reducible refine hK _ ?_); clear hK))
 obtain ⟨I, hI⟩ : ∃ I : Nat → AS → Prop, I = fun m' s => ∃ (k : Nat) (M : AH), m' = store.length - k ∧ k ≤ store.length ∧ s.tm 2 = .ptr h.length 0 0 ∧ s.tm 3 = .ptr (h.length + 1) 0 0 ∧ s.tm 5 = .ptr (h.length + 2) 0 0 ∧ s.tm 12 = .sl 2 (vs G.atom store) o2 ∧ s.tm 13 = .i store.length ∧ s.tm 14 = .i k ∧
   s.h = hs h i (.grow 41 4 (vals ++ argsG (store.take k)).length) ++ ([.cells 76 2 [.agg [.sl 4 (avs vals) (some i), .sl 2 (vs G.atom store) o2]], .cells 3 1 [.i n], .cells 41 4 [.agg [.i 2, .i 0, .v (.string { data := #[] }), .sl 4 (avs (vals ++ argsG (store.take k))) (some i)]]] ++ M) := ⟨_, rfl⟩; refine QI I ?_ (m := store.length) ?_
 ·intro m' s hs; rw [hI] at hs; obtain ⟨tm, hp⟩ := s; dsimp only at hs; obtain ⟨k, M, rfl, hk, t2, t3, t5, t12, t13, t14, rfl⟩ := hs
  have hlm : (vals ++ argsG (store.take k)).length ≤ 100000 := by
   have h1 := QW (vals ++ argsG (store.take k))
   have h2 := QbW store k
   rw [X6] at h1
   omega
  by_cases hlt : k < store.length
  ·have hla : (vals ++ argsG (store.take k)).length + (store[k]).args.length ≤ 100000 := by
    have h1 := QW (vals ++ argsG (store.take (k + 1)))
    have h2 := QbW store (k + 1)
    rw [X6] at h1
    rw [Qat hlt, ← List.append_assoc, List.length_append] at h1
    rw [Qat hlt] at h2
    omega
   have hb1 : (vals ++ argsG (store.take k)).length + (store[k]).args.length ≤ maxLen := by simp only [maxLen]; omega
   have hb2 : ((vals ++ argsG (store.take k)).length + (store[k]).args.length) * 56 ≤ 140737488355328 := by omega
   repeat (first | ((first | (with_reducible (first | refine Qa fun K E hK hE => ?_ | refine Qk fun K E hK hE => ?_))); simp -implicitDefEqProofs only [Qe, Qf, OpW, aop, undef, AS.ev, AV.QoY, ↓reduceIte, Qm, QA, QB, QO, QH, Qt, aBin, Xr, XS, ti29, ai29, ei30, Xc, ti45, YK, zi45, f1, f3, f5, f6, f7, t5, t12, t13, t14, hlt, QR, XR G.atom hlt, QT, Xa, hb1, hb2, seval]) | (with_reducible (first | refine Qd fun K hK => ?_ | refine Qi ?_ | refine Qn ?_ | refine Qb ?_ | refine Qo ?_)) | ((with_reducible refine hK _ ?_); clear hK) | (refine Qg rfl ?_; simp only [↓reduceIte]))
   refine QV.mk (m' := store.length - (k + 1)) (by omega) ?_
   rw [hI]
   refine ⟨k + 1, M ++ [.cells 45 2 [(store[k]).atom]], rfl, hlt, t2, t3, t5, t12, t13, ?_, ?_⟩
   ·simp only [upd, ↓reduceIte]
    rw [QP (by omega)]
   ·have e1 : vals ++ argsG (store.take (k + 1)) = vals ++ argsG (store.take k) ++ (store[k]).args := by rw [Qat hlt, List.append_assoc]
    rw [e1, Ye (vals ++ argsG (store.take k)), List.length_append (bs := (store[k]).args)]
    simp [Qlr]
  ·have hkl : k = store.length := by omega
   subst hkl
   rw [List.take_length] at hlm ⊢
   have hA : ndsL (vals ++ argsG store) ≤ 100000 := by rw [X6]; have := QbE store; omega
   have hoA : oks (vals ++ argsG store) := Qay hov (Qf7 hos)
   have hT : (T.mk 2 0 { data := #[] } (vals ++ argsG store)).nds ≤ 1000000 := by rw [T.Qo1]; simp only [T.args]; omega
   have hTo : (T.mk 2 0 { data := #[] } (vals ++ argsG store)).ok := by
    refine ⟨by unfold i64; omega, by unfold i64; omega, by decide, hoA⟩
   have hw : WkL [AV.agg [.i 2, .i 0, .v (.string { data := #[] }), .sl 4 (avs (vals ++ argsG store)) (some i)]] [(T.mk 2 0 { data := #[] } (vals ++ argsG store)).av] :=
    .cons (.agg (.cons (.refl _) (.cons (.refl _) (.cons (.refl _) (.cons (.sl rfl (fun y hy => by rw [YO, List.mem_map] at hy; obtain ⟨t, _, rfl⟩ := hy; exact T.cells4 t) (.refl _)) .nil))))) .nil
   repeat (first | (((with_reducible refine Qa fun K E hK hE => ?_)); simp -implicitDefEqProofs only [Qe, Qf, OpW, aop, AS.ev, ↓reduceIte, QA, QB, aBin, ti41, f3, t5, t13, t14, hlt, seval]) | (with_reducible (first | refine Qd fun K hK => ?_ | refine QC ?_ | refine Qb ?_ | refine Qw ?_ | refine Qy ?_)) | ((with_reducible refine hK _ ?_); clear hK) | (clear hK; (with_reducible refine hK _ ?_); clear hK) | (refine Qg rfl ?_; simp only [↓reduceIte, QpQ]))
   have hp1 : ∀ L : AH, (hs h i (.grow 41 4 (vals ++ argsG store).length) ++ AB.cells 76 2 [AV.agg [AV.sl 4 (avs vals) (some i), AV.sl 2 (vs G.atom store) o2]] :: AB.cells 3 1 [AV.i n] :: L)[h.length + 1]? = some (.cells 3 1 [.i n]) := fun L => by rw [f3]; rfl
   by_cases hne : XT (.mk 2 0 { data := #[] } (vals ++ argsG store)) = []
   ·have cv := QfX (.mk 2 0 { data := #[] } (vals ++ argsG store)) hT hTo
    change Pure _ _ _ (.sl 1 (ints (XT (.mk 2 0 { data := #[] } (vals ++ argsG store)))) none) at cv
    rw [hne] at cv
    have cv' := Yi hw cv
    have cd : ∀ fv, Pure Tryz.prog 76 [.sl 1 (ints []) none, fv] (.sl 1 [] none) := fun fv => QkW fv
    have e0 : Xi n vals store = [] := by rw [Xi, hne]; rfl
    refine Qp cv' ?_
    simp -implicitDefEqProofs only [Qe, Qf, OpW, QK, aop, AS.ev, ↓reduceIte, t3, seval]
    repeat (first | (((with_reducible refine Qp (cd _) ?_)); simp -implicitDefEqProofs only [Q4, Q2, Qf, OpW, QK, aop, AS.ev, Q6, Qer, ↓reduceIte, Nat.reduceLT]) | (with_reducible refine Qj ?_) | ((with_reducible refine hK _ ?_); clear hK))
    simp only [QD, Ql, Qr, upd, ↓reduceIte, QpS, QpW]
    refine Xk trivial (.tok (by simp [flat])) ⟨by rw [e0]; rfl, rfl⟩
   ·have cv := fun H => Qaq hw (QmC (.mk 2 0 { data := #[] } (vals ++ argsG store)) hT hTo hne H)
    change ∀ H, Xf _ _ _ H fun o h' => o = .ret (.arr H.length 0 (XT (.mk 2 0 { data := #[] } (vals ++ argsG store))).length) ∧ h' = H ++ [.cells 3 1 (ints (XT (.mk 2 0 { data := #[] } (vals ++ argsG store))))] at cv
    have hvl := Qaj (.mk 2 0 { data := #[] } (vals ++ argsG store)) hT
    generalize hV : XT (.mk 2 0 { data := #[] } (vals ++ argsG store)) = V at cv hvl
    have e0 : Xi n vals store = V.filter fun v => !decide (v < n) := by rw [Xi, hV]
    have hp1' := hp1 (AB.cells 41 4 [AV.agg [AV.i 2, AV.i 0, AV.v (Value.string { data := #[] }), AV.sl 4 (avs (vals ++ argsG store)) (some i)]] :: M)
    have htk := htake (hs h i (.grow 41 4 (vals ++ argsG store).length)) (AB.cells 76 2 [AV.agg [AV.sl 4 (avs vals) (some i), AV.sl 2 (vs G.atom store) o2]] :: AB.cells 3 1 [AV.i n] :: AB.cells 41 4 [AV.agg [AV.i 2, AV.i 0, AV.v (Value.string { data := #[] }), AV.sl 4 (avs (vals ++ argsG store)) (some i)]] :: M)
    generalize hH : hs h i (.grow 41 4 (vals ++ argsG store).length) ++ AB.cells 76 2 [AV.agg [AV.sl 4 (avs vals) (some i), AV.sl 2 (vs G.atom store) o2]] :: AB.cells 3 1 [AV.i n] :: AB.cells 41 4 [AV.agg [AV.i 2, AV.i 0, AV.v (Value.string { data := #[] }), AV.sl 4 (avs (vals ++ argsG store)) (some i)]] :: M = H at *
    refine FunW.ret (FunW.call (cv H)) ?_
    simp -implicitDefEqProofs only [Qe, Qf, OpW, QK, aop, AS.ev, ↓reduceIte, t3, seval]
    have hlt1 := QF hp1'
    have hid : H.length < (H ++ [AB.cells 3 1 (ints V)]).length := by simp
    have hH0 : ∀ x, hs (H ++ [AB.cells 3 1 (ints V)]) H.length x = H ++ [x] := fun x => by simp [hs]
    have cd := Qjq (fun v => decide (v < n)) V hvl (.fn (.func 77) [] [.ptr (h.length + 1) 0 0]) (H ++ [AB.cells 3 1 (ints V)]) H.length hid (fun l v => FunW.fn (Qf2 n v (h.length + 1) _ (by
     rw [hH0, List.getElem?_append_left hlt1]; exact hp1')))
    rw [hH0] at cd
    refine (FunW.call cd).mono ?_
    rintro o h' ⟨rfl, k, rfl⟩
    rw [hH0]
    simp -implicitDefEqProofs only [Q4, Q2, Qf, OpW, QK, aop, AS.ev, Q6, Qer, ↓reduceIte, Nat.reduceLT]
    repeat (first | (with_reducible refine Qj ?_) | ((with_reducible refine hK _ ?_); clear hK))
    simp only [QD, Ql, Qr, upd, ↓reduceIte, QpS, QpW]
    have hfr : Frz (H ++ [AB.cells 3 1 (ints (V.filter fun v => !decide (v < n)) ++ zeros k)]) h.length (.arr H.length 0 (V.filter fun v => !decide (v < n)).length) (.sl 1 (ints (V.filter fun v => !decide (v < n))) none) := by
     have h1 := Frz.arr (h := H ++ [AB.cells 3 1 (ints (V.filter fun v => !decide (v < n)) ++ zeros k)]) (m := h.length) (id := H.length) (lo := 0) (len := (V.filter fun v => !decide (v < n)).length) (by omega) (by rw [Qfz]; rfl)
      (by rw [List.length_append, Xb]; omega) (by
       intro a ha
       simp only [flat, List.mem_flatMap] at ha
       obtain ⟨x, hx, hax⟩ := ha
       rw [List.mem_append] at hx
       rcases hx with hx | hx
       ·simp only [ints, List.mem_map] at hx
        obtain ⟨v, _, rfl⟩ := hx
        simp only [AV.cells, List.mem_singleton] at hax
        subst hax; exact .v _
       ·rw [zeros, List.mem_replicate] at hx
        rw [hx.2] at hax
        simp only [AV.cells, List.mem_singleton] at hax
        subst hax; exact .v _)
     rw [List.drop_zero, List.take_left' (Xb _)] at h1
     exact h1
    rw [← hH] at hfr ⊢
    rw [List.append_assoc] at hfr ⊢
    exact Xk trivial hfr ⟨by rw [e0], rfl⟩
 ·rw [hI]
  exact ⟨0, [], by omega, Nat.zero_le _, rfl, rfl, rfl, rfl, by simp only [upd, ↓reduceIte, Nat.reduceEqDiff], rfl, by simp [argsG]⟩
theorem Qmj {α : Type} (c : α → α → Int) (x : α) : insC c [] x = [x] := rfl
theorem Qke {α : Type} (c : α → α → Int) (l : List α) (y x : α) : insC c (l ++ [y]) x = if c x y < 0 then insC c l x ++ [y] else l ++ [y] ++ [x] := by
 simp only [insC, List.reverse_append, List.reverse_cons, List.reverse_nil, Qqd, Qqe, insR]
 split <;> simp
theorem Qjb {α : Type} (c : α → α → Int) (l : List α) (x : α) : YA c (l ++ [x]) = insC c (YA c l) x := by rw [YA, List.foldl_append]; rfl
theorem Qaa {α : Type} (c : α → α → Int) (l : List α) : (YA c l).length = l.length := (Yc c l).length_eq
theorem Qmx {α : Type} (A : List α) (y x : α) (B : List α) : ((A ++ y :: x :: B).set (A.length + 1) y).set A.length x = A ++ x :: y :: B := by
 rw [List.set_append_right _ _ (by omega), List.set_append_right _ _ (by omega)]
 simp
theorem Qj2 (f : G → AV) (l : List G) (k : Nat) (x : G) : (vs f l).set k (f x) = vs f (l.set k x) := by simp only [vs, List.map_set]
theorem QdS (l : List G) (hb : l.length ≤ 12) (hn : ∀ g ∈ l, ndsL g.args ≤ 1000000) (h : AH) (id : Nat) (hid : id < h.length) :
  Xf Tryz.prog 157 [.arr id 0 l.length, .i 0, .i l.length, .fn (.func 52) [] []] (hs h id (.cells 45 2 (vs G.atom l))) fun o h' =>
   o = .ret (.tup []) ∧ h' = hs h id (.cells 45 2 (vs G.atom (YA cmpG l))) := by
 have g1 := fun x => Qc6 hid x
 have g2 := fun x y => QfY hid x y
 by_cases hl0 : l = []
 ·subst hl0
  have h1 : ¬ ((1 : Int) < 0) := by decide
  refine Qh Tryz.func157 rfl Tryz.call157 Tryz.ntmps157 (congrArg Array.toList Tryz.results157) (by simp) ?_
  repeat (first | (((with_reducible refine Qa fun K E hK hE => ?_)); simp -implicitDefEqProofs only [Qe, Qf, OpW, aop, undef, AS.ev, Qv, ↓reduceIte, Nat.reduceLT, aBin]) | (with_reducible refine Qi ?_) | ((with_reducible refine hK _ ?_); clear hK))
  obtain ⟨I, hI⟩ : ∃ I : Nat → AS → Prop, I = fun m' s => m' = 0 ∧ s.tm 8 = .i 1 ∧ s.tm 2 = .i 0 ∧ s.h = hs h id (.cells 45 2 (vs G.atom [])) := ⟨_, rfl⟩; refine QI I ?_ (m := 0) ?_
  ·intro m' s hs; rw [hI] at hs; obtain ⟨tm, hp⟩ := s; dsimp only at hs; obtain ⟨rfl, t8, t2, rfl⟩ := hs
   repeat (first | (((with_reducible refine Qa fun K E hK hE => ?_)); simp -implicitDefEqProofs only [Qe, Qf, OpW, aop, AS.ev, ↓reduceIte, aBin, t8, t2, h1, seval]) | (with_reducible (first | refine Qd fun K hK => ?_ | refine QC ?_ | refine Qw ?_ | refine Qy ?_)) | ((with_reducible refine hK _ ?_); clear hK) | (refine Qg rfl ?_; simp only [↓reduceIte, QpQ]))
   exact ⟨.tup [], rfl, .inr ⟨rfl, rfl⟩⟩
  ·rw [hI]
   exact ⟨rfl, rfl, rfl, rfl⟩
 have hlp : 0 < l.length := List.length_pos_iff.2 hl0
 have hsl : ∀ i, i ≤ l.length → (YA cmpG (l.take i)).length = i := fun i hi => by rw [Qaa, List.length_take]; omega
 have hsn : ∀ i, ∀ g ∈ YA cmpG (l.take i), ndsL g.args ≤ 1000000 := fun i g hg => hn g (List.mem_of_mem_take ((Yc cmpG _).mem_iff.1 hg))
 refine Qh Tryz.func157 rfl Tryz.call157 Tryz.ntmps157 (congrArg Array.toList Tryz.results157) (by simp) ?_
 repeat (first | (((with_reducible refine Qa fun K E hK hE => ?_)); simp -implicitDefEqProofs only [Qe, Qf, OpW, aop, undef, AS.ev, Qv, ↓reduceIte, Nat.reduceLT, aBin]) | (with_reducible refine Qi ?_) | ((with_reducible refine hK _ ?_); clear hK))
 obtain ⟨I, hI⟩ : ∃ I : Nat → AS → Prop, I = fun m' s => ∃ i : Nat, m' = l.length - i ∧ 1 ≤ i ∧ i ≤ l.length ∧ s.tm 0 = .arr id 0 l.length ∧ s.tm 1 = .i 0 ∧ s.tm 2 = .i l.length ∧ s.tm 3 = .fn (.func 52) [] [] ∧ s.tm 8 = .i i ∧ s.h = hs h id (.cells 45 2 (vs G.atom (YA cmpG (l.take i) ++ l.drop i))) := ⟨_, rfl⟩; refine QI I ?_ (m := l.length - 1) ?_
 ·have hO := hI
  intro m' s hs; rw [hI] at hs; obtain ⟨tm, hp⟩ := s; dsimp only at hs; obtain ⟨i, rfl, hi1, hi, t0, t1, t2, t3, t8, rfl⟩ := hs
  by_cases hlt : i < l.length
  ·repeat (first | (((with_reducible refine Qa fun K E hK hE => ?_)); simp -implicitDefEqProofs only [Qe, Qf, OpW, aop, AS.ev, ↓reduceIte, aBin, t2, t8, hlt, seval]) | (with_reducible (first | refine Qd fun K hK => ?_ | refine Qi ?_ | refine Qn ?_ | refine Qb ?_)) | ((with_reducible refine hK _ ?_); clear hK) | (refine Qg rfl ?_; simp only [↓reduceIte]))
   -- the sorted part S, and x
   generalize hS : YA cmpG (l.take i) = S
   have hSl : S.length = i := by rw [← hS]; exact hsl i hi
   have hSn : ∀ g ∈ S, ndsL g.args ≤ 1000000 := by rw [← hS]; exact hsn i
   have hxn : ndsL (l[i]).args ≤ 1000000 := hn _ (List.getElem_mem hlt)
   obtain ⟨I, hI⟩ : ∃ I : Nat → AS → Prop, I = fun m' s => ∃ j : Nat, m' = j ∧ j ≤ i ∧ insC cmpG S l[i] = insC cmpG (S.take j) l[i] ++ S.drop j ∧ s.tm 0 = .arr id 0 l.length ∧ s.tm 1 = .i 0 ∧ s.tm 2 = .i l.length ∧ s.tm 3 = .fn (.func 52) [] [] ∧ s.tm 8 = .i i ∧ s.tm 9 = .i j ∧ s.h = hs h id (.cells 45 2 (vs G.atom (S.take j ++ l[i] :: (S.drop j ++ l.drop (i + 1))))) := ⟨_, rfl⟩; refine QI I ?_ (m := i) ?_
   ·intro m' s hs; rw [hI] at hs; obtain ⟨tm, hp⟩ := s; dsimp only at hs; obtain ⟨j, hm, hj, he, t0, t1, t2, t3, t8, t9, rfl⟩ := hs
    have fin : ∀ (R : List G), R = insC cmpG S l[i] ++ l.drop (i + 1) → R = YA cmpG (l.take (i + 1)) ++ l.drop (i + 1) := fun R hR => by
     rw [hR, List.take_succ_eq_append_getElem hlt, Qjb, hS]
    cases j with
    | zero =>
     have h00 : ¬ ((0 : Int) > 0) := by decide
     repeat (first | ((first | (with_reducible refine Qk fun K E hK hE => ?_) | (refine Qu (id := 4) [(0, 0), (1, 0), (2, 0), (3, 0), (4, 0), (5, 0), (6, 0), (7, 0), (8, 0), (9, 0), (10, 0), (11, 0), (12, 0), (13, 0), (14, 1), (15, 0), (16, 0)] mixed (by kernel_rfl) fun K hK => ?_)); simp -implicitDefEqProofs only [Qe, Qf, OpW, aop, undef, AS.ev, ↓reduceIte, aBin, t1, t8, t9, h00, seval]) | (with_reducible (first | refine Qd fun K hK => ?_ | refine QC ?_ | refine Qb ?_ | refine Qw ?_ | refine Qo ?_ | refine Qy ?_)) | ((with_reducible refine hK _ ?_); clear hK) | (clear hK; (with_reducible refine hK _ ?_); clear hK) | (refine Qg rfl ?_; simp only [↓reduceIte, QpQ]))
     refine QV.mk (m' := l.length - (i + 1)) (by omega) ?_
     rw [hO]
     refine ⟨i + 1, rfl, by omega, hlt, t0, t1, t2, t3, ?_, ?_⟩
     ·simp only [upd, ↓reduceIte]
      rw [QP (by omega)]
     ·rw [fin _ (show l[i] :: (S ++ l.drop (i + 1)) = _ by rw [he]; simp [Qmj])]
    | succ j =>
     have hjS : j < S.length := by omega
     have hw1 : IntKind.i64.wrap (((j + 1 : Nat) : Int) - 1) = ((j : Nat) : Int) := by rw [Xp (by omega)]; omega
     have hpos : ((j + 1 : Nat) : Int) > 0 := by omega
     have hts : S.take (j + 1) = S.take j ++ [S[j]] := List.take_succ_eq_append_getElem hjS
     have hA : (S.take j).length = j := by rw [List.length_take]; omega
     have hL : S.take (j + 1) ++ l[i] :: (S.drop (j + 1) ++ l.drop (i + 1)) = S.take j ++ S[j] :: l[i] :: (S.drop (j + 1) ++ l.drop (i + 1)) := by rw [hts, List.append_assoc]; rfl
     have hk1 : (S.take j ++ S[j] :: l[i] :: (S.drop (j + 1) ++ l.drop (i + 1)))[j + 1]? = some l[i] := by
      rw [List.getElem?_append_right (by omega), hA]; simp
     have hk0 : (S.take j ++ S[j] :: l[i] :: (S.drop (j + 1) ++ l.drop (i + 1)))[j]? = some S[j] := by
      rw [List.getElem?_append_right (by omega), hA, Nat.sub_self]; rfl
     have hv1 : (vs G.atom (S.take j ++ S[j] :: l[i] :: (S.drop (j + 1) ++ l.drop (i + 1))))[j + 1]? = some (l[i]).atom := by rw [vs, List.getElem?_map, hk1]; rfl
     have hv0 : (vs G.atom (S.take j ++ S[j] :: l[i] :: (S.drop (j + 1) ++ l.drop (i + 1))))[j]? = some (S[j]).atom := by rw [vs, List.getElem?_map, hk0]; rfl
     have hsw : ((vs G.atom (S.take j ++ S[j] :: l[i] :: (S.drop (j + 1) ++ l.drop (i + 1)))).set (j + 1) (S[j]).atom).set j (l[i]).atom = vs G.atom (S.take j ++ l[i] :: S[j] :: (S.drop (j + 1) ++ l.drop (i + 1))) := by
      rw [Qj2, Qj2]
      have := Qmx (S.take j) S[j] l[i] (S.drop (j + 1) ++ l.drop (i + 1))
      rw [hA] at this
      rw [this]
     have hj1 : j + 1 < l.length := by omega
     have hj0 : j < l.length := by omega
     have cc := ZV l[i] S[j] hxn
     rw [hts, Qke] at he
     rw [hL]
     by_cases hc : cmpG l[i] S[j] < 0
     ·rw [if_pos hc] at he
      have hcb : cmpG l[i] S[j] < 0 := hc
      have hv2 : ((vs G.atom (S.take j ++ S[j] :: l[i] :: (S.drop (j + 1) ++ l.drop (i + 1)))).set (j + 1) (S[j]).atom)[j]? = some (S[j]).atom := by rw [List.getElem?_set_ne (by omega)]; exact hv0
      repeat (first | ((first | (with_reducible (first | refine Qk fun K E hK hE => ?_ | refine Qz cc ?_)) | (refine Qu (id := 4) [(0, 0), (1, 0), (2, 0), (3, 0), (4, 0), (5, 0), (6, 0), (7, 0), (8, 0), (9, 0), (10, 0), (11, 0), (12, 0), (13, 0), (14, 1), (15, 0), (16, 0)] mixed (by kernel_rfl) fun K hK => ?_) | (refine QG (id := 6) [(0, 0), (1, 0), (2, 1), (3, 1), (4, 1), (5, 0), (6, 0), (7, 0), (8, 0), (9, 0), (10, 0), (11, 0), (12, 0), (13, 0), (14, 0), (15, 2), (16, 0), (17, 2)] mixed (by kernel_rfl) fun K hK => ?_)); simp -implicitDefEqProofs only [Qe, Qf, OpW, aop, undef, AS.ev, AV.QoY, ↓reduceIte, QA, QB, QO, QH, Qt, aBin, ei30, ti45, t0, t1, t3, t9, hpos, hw1, g1, g2, hv1, hv0, hv2, hj1, hj0, QT, Xa, hcb, hsw, seval]) | (with_reducible (first | refine Qd fun K hK => ?_ | refine Qi ?_ | refine Qn ?_ | refine Qb ?_ | refine Qo ?_)) | ((with_reducible refine hK _ ?_); clear hK) | (refine Qg rfl ?_; simp only [↓reduceIte]))
      refine QV.mk (m' := j) (by omega) ?_
      rw [hI]
      refine ⟨j, rfl, by omega, ?_, t0, t1, t2, t3, t8, ?_, ?_⟩
      ·rw [he, List.append_assoc, List.drop_eq_getElem_cons hjS]; rfl
      ·simp only [upd, ↓reduceIte]
      ·rw [List.drop_eq_getElem_cons hjS]; rfl
     ·rw [if_neg hc] at he
      have hcb : ¬ cmpG l[i] S[j] < 0 := hc
      repeat (first | ((first | (with_reducible (first | refine Qk fun K E hK hE => ?_ | refine Qz cc ?_)) | (refine Qu (id := 4) [(0, 0), (1, 0), (2, 0), (3, 0), (4, 0), (5, 0), (6, 0), (7, 0), (8, 0), (9, 0), (10, 0), (11, 0), (12, 0), (13, 0), (14, 1), (15, 0), (16, 0)] mixed (by kernel_rfl) fun K hK => ?_)); simp -implicitDefEqProofs only [Qe, Qf, OpW, aop, AS.ev, ↓reduceIte, QA, QB, Qt, aBin, ei30, ti45, t0, t1, t3, t8, t9, hpos, hw1, g1, hv1, hv0, hj1, hj0, QT, Xa, hcb, seval]) | (with_reducible (first | refine Qd fun K hK => ?_ | refine QC ?_ | refine Qb ?_ | refine Qw ?_ | refine Qo ?_ | refine Qy ?_)) | ((with_reducible refine hK _ ?_); clear hK) | (clear hK; (with_reducible refine hK _ ?_); clear hK) | (refine Qg rfl ?_; simp only [↓reduceIte, QpQ]))
      refine QV.mk (m' := l.length - (i + 1)) (by omega) ?_
      rw [hO]
      refine ⟨i + 1, rfl, by omega, hlt, t0, t1, t2, t3, ?_, ?_⟩
      ·simp only [upd, ↓reduceIte]
       rw [QP (by omega)]
      ·rw [fin _ (show S.take j ++ S[j] :: l[i] :: (S.drop (j + 1) ++ l.drop (i + 1)) = _ by rw [he]; simp only [List.append_assoc, Qqe, Qqd])]
   ·rw [hI]
    refine ⟨i, rfl, Nat.le_refl _, ?_, t0, t1, t2, t3, t8, rfl, ?_⟩
    ·rw [List.take_of_length_le (by omega), List.drop_eq_nil_of_le (by omega), List.append_nil]
    ·have e1 : S.take i = S := List.take_of_length_le (by omega)
     have e2 : S.drop i = [] := List.drop_eq_nil_of_le (by omega)
     rw [e1, e2, List.nil_append, ← List.drop_eq_getElem_cons hlt]
  ·have hil : i = l.length := by omega
   subst hil
   rw [List.take_length, List.drop_length, List.append_nil]
   repeat (first | (((with_reducible refine Qa fun K E hK hE => ?_)); simp -implicitDefEqProofs only [Qe, Qf, OpW, aop, AS.ev, ↓reduceIte, aBin, t2, t8, hlt, seval]) | (with_reducible (first | refine Qd fun K hK => ?_ | refine QC ?_ | refine Qw ?_ | refine Qy ?_)) | ((with_reducible refine hK _ ?_); clear hK) | (refine Qg rfl ?_; simp only [↓reduceIte, QpQ]))
   exact ⟨.tup [], rfl, .inr ⟨rfl, rfl⟩⟩
 ·rw [hI]
  refine ⟨1, rfl, Nat.le_refl _, hlp, rfl, rfl, rfl, rfl, rfl, ?_⟩
  obtain ⟨a, l', rfl⟩ : ∃ a l', l = a :: l' := by cases l with | nil => exact absurd rfl hl0 | cons a l' => exact ⟨a, l', rfl⟩
  rfl
end Go.Proofs.YtniljpjjnmkoaaaGreatDoor.Ab
namespace Go.Proofs.YtniljpjjnmkoaaaGreatDoor.Ab
open Go.ChangeShapes Go.WideShapes Go.ChangeAt Go.RowKit
def base0 (W : World) : Cx := ⟨fun _ => none, [], W⟩
theorem QiN {W : World} {B o : Nat} (h : B < W.heap.size) : (base0 W).prot B o := ⟨h, fun id b hb => by simp [base0] at hb⟩
theorem ZM {H : Type} {enc : TypeId × Value → H} {P : Program} (hl : laidOutB P = true) {W W' : World} (hb : Go.RowKit.Below W.heap.size W W') {sp : Nat → Bool} :
  ∀ (ts : List TypeId) (vs : List Value) (ds : List (DataW H)) (ps : List MemPlace), (∀ t ∈ ts, P.readableRec t = true ∧ t < P.types.size) → DataW.TrodAll enc P W 0 (fun _ => true) true ts vs ds ps →
   (∀ x ∈ ps, x.block < W.heap.size ∧ sp x.block = true) → DataW.TrodAll enc P W' 0 sp true ts vs ds ps
 | [], vs, ds, ps, _, h, _ => by
  obtain ⟨rfl, rfl, rfl⟩ := trodAll_nil h
  exact trodAll_mk0
 | t :: ts, vs, ds, ps, hp, h, hlt => by
  obtain ⟨v, vs', d, ds', p, q, rfl, rfl, rfl, h1, h2⟩ := trodAll_cons h
  obtain ⟨h3, h4⟩ := hp t (by simp)
  exact trodAll_cons_mk (WideElems.Trod_stays hl h3 h4 h1 (fun x hx => hb.same (hlt x (by simp [hx])).1) (fun x hx => (hlt x (by simp [hx])).2))
   (ZM hl hb ts vs' ds' q (fun t ht => hp t (by simp [ht])) h2 (fun x hx => hlt x (by simp [hx])))
theorem Qct {H : Type} {enc : TypeId × Value → H} {P : Program} {W : World} {base : Nat} {sp : Nat → Bool} {held : Bool} :
  ∀ {ts : List TypeId} {vs : List Value} {ds : List (DataW H)} {ps : List MemPlace} {ts' : List TypeId} {vs' : List Value} {ds' : List (DataW H)} {ps' : List MemPlace},
   DataW.TrodAll enc P W base sp held ts vs ds ps → DataW.TrodAll enc P W base sp held ts' vs' ds' ps' → DataW.TrodAll enc P W base sp held (ts ++ ts') (vs ++ vs') (ds ++ ds') (ps ++ ps')
 | [], _, _, _, _, _, _, _, h, h' => by
  obtain ⟨rfl, rfl, rfl⟩ := trodAll_nil h
  exact h'
 | t :: ts, _, _, _, _, _, _, _, h, h' => by
  obtain ⟨v, vs', d, ds', p, q, rfl, rfl, rfl, h1, h2⟩ := trodAll_cons h
  have := trodAll_cons_mk h1 (Qct h2 h')
  simpa [List.append_assoc] using this
theorem Qi3 {H : Type} {enc : TypeId × Value → H} {P : Program} {fn : Func} {s : ChangeSpec} {apart fresh handsOn again : Bool} {W W' : World} {args : Array Value} {ds gs : List (DataW H)} {before : List MemPlace} {tb : TypeId}
  (hl : laidOutB P = true) (hvars : s.vars = []) (hr : fn.resultTypes = #[tb]) (hb : P.underlying tb = some .bool) (hp : ∀ t ∈ fn.params.toList, P.readableRec t = true ∧ t < P.types.size)
  (hW : DataW.Whole enc P fn.params.toList s.vars apart W args.toList ds gs before) (hs : s.fn H (ds ++ gs) = { results := [.lit (.bool true)], args := ds }) (hbel : Go.RowKit.Below W.heap.size W W') :
  s.post enc P fn apart fresh handsOn again W args (.bool true) W' := by
 have hlt : ∀ x ∈ before, x.block < W.heap.size := fun x hx => by simpa using hW.lt x hx
 have hW0 := hW
 obtain ⟨p, q, hA, hV, rfl, hfz, hnd⟩ := hW
 rw [hvars] at hV
 have hV0 := hV
 obtain ⟨rfl, rfl⟩ := trodVars_none hV
 simp only [Qqf] at hlt hfz hnd hW0 hs
 have hres : ∀ (b : Nat) (sp : Nat → Bool) (hd : Bool), DataW.TrodAll enc P W' b sp hd fn.resultTypes.toList ((Value.bool true).resultList fn.resultTypes.size) [.lit (.bool true)] [] := fun b sp hd => by
  rw [hr]
  exact trodAll_mk1 (shut_bool hb true)
 have hvs : ∀ sp : Nat → Bool, DataW.TrodVars enc P W' sp s.vars [] [] := fun sp => by rw [hvars]; rfl
 refine ⟨ds, [], p, [], p, [], by simpa using hW0, ?_, ?_, ?_, ?_, fun _ => ⟨?_, ?_⟩⟩
 ·rw [List.append_nil, hs]; exact hres _ _ _
 ·rw [List.append_nil, hs]
  exact ZM hl hbel _ _ _ _ hp hA fun x hx => ⟨hlt x hx, by simpa using hlt x hx⟩
 ·rw [List.append_nil, hs]; exact hvs _
 ·exact hbel.frame _
 ·intro j t r hj hv
  rw [hr] at hj hv
  match j, hj, hv with
  | 0, hj, hv =>
   simp only [QpP, QpM, QpS] at hj
   have hv' : r = .bool true := by
    have : (some (Value.bool true)) = some r := hv
    cases this; rfl
   subst hj; subst hv'
   exact okWide_bool_mk hb true
  | j + 1, hj, hv => simp at hj
 ·have hA' := ZM (sp := fun _ => true) hl hbel _ _ _ _ hp hA fun x hx => ⟨hlt x hx, rfl⟩
  refine ⟨_, [], [] ++ p, ⟨[] ++ p, [], Qct (hres 0 _ true) hA', hvs _, by simp, ?_, ?_⟩, ?_⟩
  ·intro b off hm
   have hm' : MemPlace.cell b off ∈ p := by simpa using hm
   exact (hbel.frozen (p := ⟨b, off, none⟩) (hlt _ hm')).trans (hfz b off hm')
  ·intro ha
   simpa using hnd ha
  ·intro x hx _
   simpa using hx
theorem QgR {P : Program} {w : World} {r : Reach} {b : Nat} {t : TypeId} {fs : Array Field} {v : Value} (ht : P.underlying t = some (.struct fs)) (hv : Value.okWide P w r b t v) : ∃ cs, v = .agg cs := by
 simp only [Value.okWide, ht] at hv
 obtain ⟨cs, rfl, _⟩ := hv
 exact ⟨cs, rfl⟩
def Reads (W : World) (a : AV) (cs : List Value) : Prop := cs.length = a.cells.length ∧ ∀ (j : Nat) x u, a.cells[j]? = some x → cs[j]? = some u → Rel (base0 W) x u ∧ u.oneCell' = true
theorem Qhk {w : World} {a : Addr} {u : Value} (h : w.cell? a = some u) : a.block < w.heap.size ∧ a.spot = none := by
 unfold World.cell? at h
 cases hb : w.heap[a.block]? with
 | none => simp [hb] at h
 | some o =>
  rw [hb] at h
  refine ⟨(Array.getElem?_eq_some_iff.1 hb).1, ?_⟩
  cases o with
  | cells c _ _ =>
   simp only at h
   split at h
   ·cases h
   ·rename_i hs
    cases hsp : a.spot with
    | none => rfl
    | some q => rw [hsp] at hs; simp at hs
  | _ => cases h
theorem QaF {H : Type} {enc : TypeId × Value → H} {P : Program} {W : World} {t e : TypeId} {s fuel : Nat} {cs : List Value} {y : DataW H × List MemPlace} {X : Type} {val : X → AV} {Good : X → Prop}
  (ht : P.underlying t = some (.slice e)) (hs : P.cellsOf e = s) (hpos : 0 < s) (hval : ∀ x, (val x).cells.length = s)
  (rd : ∀ n cs y, n < fuel → DataW.trod enc P W 0 (fun _ => true) true n e cs = some y → ∃ x : X, Good x ∧ Reads W (val x) cs)
  (h : DataW.trod enc P W 0 (fun _ => true) true fuel t cs = some y) : ∃ (xs : List X) (u : Value), (∀ x ∈ xs, Good x) ∧ cs = [u] ∧ u.oneCell' = true ∧ Rel (base0 W) (.sl s (xs.map val) none) u := by
 rcases DataW.trod_slice ht h with ⟨rfl, _⟩ | ⟨a, len, cap, elems, rest, n, rfl, rfl, _, _, hlc, hcm, hlen, hel, hsp, _⟩
 ·exact ⟨[], _, (by simp), rfl, rfl, .slnil s none fun b hb => by cases hb⟩
 ·have each : ∀ i, i < len → ∃ x : X, Good x ∧ ∃ cs, W.cells? 0 (a.add (i * s)) s = some cs ∧ Reads W (val x) cs := by
   intro i hi
   have h1 := hel i hi
   rw [List.getElem?_eq_getElem (by omega), hs, Option.bind_eq_some_iff] at h1
   obtain ⟨cs, h2, h3⟩ := h1
   obtain ⟨x, hx1, hx2⟩ := rd n cs _ (Nat.lt_succ_self n) h3
   exact ⟨x, hx1, cs, h2, hx2⟩
  obtain ⟨xs, hxl, hxs⟩ : ∃ xs : List X, xs.length = len ∧ ∀ i (hi : i < xs.length), Good xs[i] ∧ ∃ cs, W.cells? 0 (a.add (i * s)) s = some cs ∧ Reads W (val xs[i]) cs := by
   have : ∀ m, m ≤ len → ∃ xs : List X, xs.length = m ∧ ∀ i (hi : i < xs.length), Good xs[i] ∧ ∃ cs, W.cells? 0 (a.add (i * s)) s = some cs ∧ Reads W (val xs[i]) cs := by
    intro m
    induction m with
    | zero => exact fun _ => ⟨[], rfl, fun i hi => by simp at hi⟩
    | succ m ih =>
     intro hm
     obtain ⟨xs, hl, hx⟩ := ih (by omega)
     obtain ⟨x, hg, hr⟩ := each m (by omega)
     refine ⟨xs ++ [x], by simp [hl], fun i hi => ?_⟩
     by_cases hi' : i < xs.length
     ·rw [List.getElem_append_left hi']; exact hx i hi'
     ·have e : i = m := by simp at hi; omega
      subst e
      have hxe : (xs ++ [x])[i] = x := by simp [← hl]
      rw [hxe]
      exact ⟨hg, hr⟩
   exact this len (Nat.le_refl _)
  have hgood : ∀ x ∈ xs, Good x := fun x hx => by
   obtain ⟨i, hi, rfl⟩ := List.getElem_of_mem hx
   exact (hxs i hi).1
  by_cases hcap : cap = 0
  ·have hl0 : len = 0 := by omega
   subst hcap; subst hl0
   have : xs = [] := List.length_eq_zero_iff.1 hxl
   subst this
   exact ⟨[], _, (by simp), rfl, rfl, .slzero s none a fun b hb => by cases hb⟩
  ·have hspot : a.spot = none := by
    have key : W.cells? 0 (a.add (0 * s)) s ≠ none → a.spot = none := by
     intro hk
     cases hc : W.cells? 0 (a.add (0 * s)) s with
     | none => exact absurd hc hk
     | some cs =>
      obtain ⟨_, hl, hcell⟩ := World.cells?_some hc
      have := hcell 0 hpos
      rw [List.getElem?_eq_getElem (by omega)] at this
      have := (Qhk this).2
      simpa [Addr.add] using this
    by_cases hl : 0 < len
    ·refine key fun hn => ?_
     have := hel 0 hl
     rw [hs, hn, List.getElem?_eq_getElem (by omega)] at this
     simp at this
    ·obtain ⟨hrl, hr⟩ := hsp rfl
     refine key fun hn => ?_
     have := hr 0 (by omega)
     rw [show len + 0 = 0 by omega, hs, hn, List.getElem?_eq_getElem (by omega)] at this
     simp at this
   have ha : a = ⟨a.block, a.off, none⟩ := by cases a; simp only at hspot; subst hspot; rfl
   have hvs : ∀ x ∈ xs.map val, x.cells.length = s := fun x hx => by
    obtain ⟨z, _, rfl⟩ := List.mem_map.1 hx
    exact hval z
   have hflat : ∀ (j : Nat) (v : AV), (flat (xs.map val))[j]? = some v → ∃ (i : Nat) (hi : i < xs.length) (k : Nat), k < s ∧ j = i * s + k ∧ (val xs[i]).cells[k]? = some v := by
    intro j v hj
    have hlt := QF hj
    rw [flat_length hvs, List.length_map] at hlt
    have hi : j / s < xs.length := by rw [Nat.div_lt_iff_lt_mul hpos]; exact hlt
    have hdm := Nat.div_add_mod j s
    have hml := Nat.mod_lt j hpos
    refine ⟨j / s, hi, j % s, hml, by rw [Nat.mul_comm]; exact hdm.symm, ?_⟩
    obtain ⟨v', hv'⟩ : ∃ v', (val (xs[j / s]'hi)).cells[j % s]? = some v' := ⟨_, List.getElem?_eq_getElem (by rw [hval]; exact hml)⟩
    have := flat_get hvs (k := j / s) (x := val (xs[j / s]'hi)) (by rw [List.getElem?_map, List.getElem?_eq_getElem hi]; rfl) hv'
    rw [show j / s * s + j % s = j by rw [Nat.mul_comm]; exact hdm, hj] at this
    rw [hv', this]
   have hcell : ∀ (j : Nat) (v : AV), (flat (xs.map val))[j]? = some v → ∃ u, W.cell? ⟨a.block, a.off + j, none⟩ = some u ∧ Rel (base0 W) v u ∧ u.oneCell' = true := by
    intro j v hj
    obtain ⟨i, hi, k, hk, rfl, hv⟩ := hflat j v hj
    obtain ⟨_, cs, hcs, hrd⟩ := hxs i hi
    obtain ⟨_, hl, hc⟩ := World.cells?_some hcs
    obtain ⟨u, hu⟩ : ∃ u, cs[k]? = some u := ⟨_, List.getElem?_eq_getElem (by omega)⟩
    have h1 := hc k hk
    rw [hu] at h1
    obtain ⟨h2, h3⟩ := hrd.2 k v u hv hu
    refine ⟨u, ?_, h2, h3⟩
    have e : (a.add (i * s)).add k = ⟨a.block, a.off + (i * s + k), none⟩ := by
     rw [ha, addr_add, addr_add, Nat.add_assoc]
    rw [← e]
    exact h1
   refine ⟨xs, _, hgood, rfl, rfl, ?_⟩
   have hsl := Rel.sl (c := base0 W) s (xs.map val) none a.block a.off cap (fun j => (W.cell? ⟨a.block, a.off + j, none⟩).getD undef) hvs (by rw [List.length_map]; omega) hcm
    (fun j v hj => by
     obtain ⟨u, h1, h2, h3⟩ := hcell j v hj
     rw [h1]
     exact ⟨⟨h1, QiN (Qhk h1).1⟩, h3⟩)
    (fun j v hj => by
     obtain ⟨u, h1, h2, h3⟩ := hcell j v hj
     rw [h1]
     exact h2)
    (fun b hb => by cases hb)
   rw [List.length_map, hxl, ← ha] at hsl
   exact hsl
theorem QlS (c : Cx) : RelL c [] #[] := ⟨rfl, fun j a u h => by simp at h⟩
theorem QgY {c : Cx} {a : AV} {asx : List AV} {u : Value} {us : List Value} (h : Rel c a u) (hs : RelL c asx us.toArray) : RelL c (a :: asx) (u :: us).toArray := by
 refine ⟨by have := hs.1; simp at this ⊢; exact this, fun j x v hx hv => ?_⟩
 cases j with
 | zero => simp at hx hv; subst hx; subst hv; exact h
 | succ j => exact hs.2 j x v (by simpa using hx) (by simpa using hv)
theorem Qkk {W : World} {l : List AV} {cs : Array Value} (h : Reads W (.agg l) cs.toList) : Rel (base0 W) (.agg l) (.agg cs) :=
 .agg l cs (by have := h.1; simpa [AV.cells] using this) fun j a u ha hu => (h.2 j a u ha (by simpa using hu)).1
theorem Ql9 {H : Type} {enc : TypeId × Value → H} {P : Program} {W : World} {r : Reach} {b0 : Nat} {t : TypeId} {fs : Array Field} {v : Value} {d : DataW H} {ps : List MemPlace} {X : Type} {val : X → AV} {Good : X → Prop}
  (ht : P.underlying t = some (.struct fs)) (hv : Value.okWide P W r b0 t v) (hd : DataW.Trod enc P W 0 (fun _ => true) true t v d ps) (hval : ∀ x, ∃ l, val x = .agg l)
  (rd : ∀ fuel cs y, DataW.trod enc P W 0 (fun _ => true) true fuel t cs = some y → ∃ x : X, Good x ∧ Reads W (val x) cs) : ∃ x : X, Good x ∧ Rel (base0 W) (val x) v := by
 obtain ⟨cs, rfl⟩ := QgR ht hv
 obtain ⟨fuel, hf⟩ := hd
 obtain ⟨x, hg, hr⟩ := rd fuel _ _ hf
 obtain ⟨l, hl⟩ := hval x
 refine ⟨x, hg, ?_⟩
 rw [hl] at hr ⊢
 exact Qkk hr
theorem Q8 {α : Type} {n : Nat} : ∀ {l : List α}, l.length = n + 1 → ∃ a l', l = a :: l' ∧ l'.length = n
 | a :: l, h => ⟨a, l, rfl, by simpa using h⟩
theorem len_nil {α : Type} {l : List α} (h : l.length = 0) : l = [] := List.length_eq_zero_iff.1 h
end Go.Proofs.YtniljpjjnmkoaaaGreatDoor.Ab
namespace Go.Proofs.YtniljpjjnmkoaaaGreatDoor.Ab
open Go.RowKit
def HasG (h : AH) (g : Nat) (cs : Array Value) : Prop := ∃ (i : Nat) (ty : TypeId) (fr : Nat × Nat), h[i]? = some (.glob g cs ty fr)
theorem HasG.app {h : AH} {g : Nat} {cs : Array Value} (H : HasG h g cs) (l : AH) : HasG (h ++ l) g cs := let ⟨i, ty, fr, e⟩ := H; ⟨i, ty, fr, hext e l⟩
theorem HasG.world {c : Cx} (hst : St c) {g : Nat} {cs : Array Value} (H : HasG c.h g cs) : ∃ ty fr, c.w.heap[g]? = some (.cells cs ty fr) :=
 let ⟨i, ty, fr, e⟩ := H; ⟨ty, fr, (hst.blocks i _ e).2⟩
theorem HasG.var {P : Program} {c : Cx} (hst : St c) {g : Nat} {cs : Array Value} (H : HasG c.h g cs) {nm : String} (hn : P.globalNamed nm = some g) : c.w.var? P nm = some cs := by
 obtain ⟨ty, fr, e⟩ := H.world hst
 simp only [World.var?, hn, QpR, e]
theorem HasG.kin {c c' : Cx} (hev : Ev c c') {g : Nat} {cs : Array Value} (H : HasG c.h g cs) : HasG c'.h g cs := by
 obtain ⟨i, ty, fr, e⟩ := H
 obtain ⟨b', hb, hk⟩ := hev.kin i _ e
 simp only [Kin] at hk
 obtain ⟨rfl, _⟩ := hk
 exact ⟨i, ty, fr, hb⟩
structure GV where
 g : Nat
 cs : Array Value
 ty : TypeId
 fr : Nat × Nat
def GV.blk (x : GV) : AB := .glob x.g x.cs x.ty x.fr
def Qdb (W : World) (gs : List GV) : Cx := ⟨fun id => (gs[id]?).map (·.g), gs.map GV.blk, W⟩
theorem Qan {W : World} {gs : List GV} {id : Nat} {b : AB} (h : (Qdb W gs).h[id]? = some b) : ∃ x, gs[id]? = some x ∧ b = x.blk ∧ (Qdb W gs).ρ id = some x.g := by
 simp only [Qdb, List.getElem?_map, Option.map_eq_some_iff] at h ⊢
 obtain ⟨x, hx, rfl⟩ := h
 exact ⟨x, hx, rfl, x, hx, rfl⟩
theorem QkI {l : List Nat} (hn : l.Nodup) {i j a : Nat} (hi : l[i]? = some a) (hj : l[j]? = some a) : i = j := by
 have hp := List.pairwise_iff_getElem.1 hn
 obtain ⟨li, ei⟩ := List.getElem?_eq_some_iff.1 hi
 obtain ⟨lj, ej⟩ := List.getElem?_eq_some_iff.1 hj
 rcases Nat.lt_trichotomy i j with h | h | h
 ·exact absurd (ei.trans ej.symm) (hp i j li lj h)
 ·exact h
 ·exact absurd (ej.trans ei.symm) (hp j i lj li h)
theorem QmT {W : World} {gs : List GV} (hw : ∀ x ∈ gs, W.heap[x.g]? = some (.cells x.cs x.ty x.fr)) (hn : (gs.map (·.g)).Nodup) : St (Qdb W gs) := by
 refine ⟨fun id b h => ?_, fun i j a b B hi hj _ _ hρi hρj => ?_⟩
 ·obtain ⟨x, hx, rfl, hρ⟩ := Qan h
  exact ⟨hρ, hw x (List.mem_of_getElem? hx)⟩
 ·obtain ⟨x, hx, rfl, hρ⟩ := Qan hi
  obtain ⟨y, hy, rfl, hρ'⟩ := Qan hj
  have e : x.g = y.g := (Option.some.inj (hρ.symm.trans hρi)).trans (Option.some.inj (hρ'.symm.trans hρj)).symm
  have e1 : (gs.map (·.g))[i]? = some x.g := by rw [List.getElem?_map, hx]; rfl
  have e2 : (gs.map (·.g))[j]? = some x.g := by rw [List.getElem?_map, hy, e]; rfl
  exact QkI hn e1 e2
theorem Qgm {W : World} {gs : List GV} {c : Cx} (hw : ∀ x ∈ gs, W.heap[x.g]? = some (.cells x.cs x.ty x.fr)) (hst : St c) (h : Ev (Qdb W gs) c) : Go.RowKit.Below W.heap.size W c.w := by
 refine ⟨h.os, h.tape, h.output, h.size, fun k hk => ?_⟩
 by_cases ho : (Qdb W gs).owns k
 ·obtain ⟨id, b, hb, _, hρ⟩ := ho
  obtain ⟨x, hx, rfl, hρ'⟩ := Qan hb
  obtain rfl := Option.some.inj (hρ.symm.trans hρ')
  obtain ⟨b', hb', hk'⟩ := h.kin id _ hb
  simp only [GV.blk, Kin] at hk'
  obtain ⟨rfl, _⟩ := hk'
  rw [(hst.blocks id _ hb').2, hw x (List.mem_of_getElem? hx)]
 ·exact h.frame k hk ho
theorem QjV {W : World} {gs : List GV} {a : AV} {u : Value} (h : Rel (base0 W) a u) : Rel (Qdb W gs) a u := by
 have hp : ∀ {B o : Nat} {u : Value}, (base0 W).cellP B o u → (Qdb W gs).cellP B o u := fun {B o u} h => ⟨h.1, h.2.1, fun id b hb hl hρ => .inr (by
  obtain ⟨x, _, rfl, _⟩ := Qan hb
  exact ⟨_, _, _, _, rfl⟩)⟩
 induction h with
 | v x => exact .v x
 | junk x => exact .junk x
 | agg l cs hl h ih => exact .agg l cs hl ih
 | tup l cs hl h ih => exact .tup l cs hl ih
 | slnil s own ht => exact .slnil s own fun b hb => absurd (ht b hb).1 (by simp [base0])
 | slzero s own ba ht => exact .slzero s own ba fun b hb => absurd (ht b hb).1 (by simp [base0])
 | sl s xs own B o cap f hs hcap hmax hc hr ht ih => exact .sl s xs own B o cap f hs hcap hmax (fun j a hj => ⟨hp (hc j a hj).1, (hc j a hj).2⟩) ih fun b hb => absurd (ht b hb).1.1 (by simp [base0])
 | pin s xs k off B o f hs hc hr ih => exact .pin s xs k off B o f hs (fun j a hj => ⟨hp (hc j a hj).1, (hc j a hj).2⟩) ih
 | ptr id k off x hid => exact absurd hid (by simp [base0])
 | arr id lo len x hid => exact absurd hid (by simp [base0])
 | row id lo len cap x hid => exact absurd hid (by simp [base0])
 | mp id x hid => exact absurd hid (by simp [base0])
 | fn f first cap vs ws h1 h2 hv hw ihv ihw => exact .fn f first cap vs ws h1 h2 ihv ihw
 | ifc t a u h ih => exact .ifc t a u ih
 | spt s xs own p n k h ih => exact .spt s xs own p n k ih
theorem QjD {W : World} {gs : List GV} {asx : List AV} {args : Array Value} (h : RelL (base0 W) asx args) : RelL (Qdb W gs) asx args := ⟨h.1, fun j a u e1 e2 => QjV (h.2 j a u e1 e2)⟩
theorem Qjt {P : Program} {f : FuncId} {asx : List AV} {W : World} {args : Array Value} {gs : List GV} (hw : ∀ x ∈ gs, W.heap[x.g]? = some (.cells x.cs x.ty x.fr)) (hn : (gs.map (·.g)).Nodup)
  (hc : Xf P f asx (gs.map GV.blk) fun o h' => o = .ret (.v (.bool true)) ∧ h' = gs.map GV.blk) (hr : RelL (Qdb W gs) asx args) :
  Calls P f args W fun e W' => e = .returned (.bool true) ∧ Go.RowKit.Below W.heap.size W W' := by
 refine callsIn_wide.1 ((hc.2 Fence.wide 0 (Qdb W gs) args WF.wide (QmT hw hn) rfl hr).mono ?_)
 rintro e w' ⟨o, c', ⟨rfl, hh⟩, hev, hst, rfl, hend⟩
 obtain ⟨x, rfl, hx⟩ := hend
 cases hx
 exact ⟨rfl, Qgm hw hst hev⟩
theorem Qmv {P : Program} {W : World} {l : List (String × DataW Unit)} (h : laidMetH P l W) {x : String × DataW Unit} (hf : ((l.filter fun x => x.2.handleName?.isNone).filter fun y => y.1 == x.1) = [x]) : laidMet P [x] W := by
 have := (laidMetH_iff.1 h).1.filter fun y => y.1 == x.1
 rwa [hf] at this
theorem Qlj {P : Program} {W : World} {nm : String} {g : Nat} {cs : Array Value} (hn : P.globalNamed nm = some g) (h : W.var? P nm = some cs) : ∃ ty fr, W.heap[g]? = some (.cells cs ty fr) := by
 simp only [World.var?, hn, QpR] at h
 split at h
 ·rename_i cs' ty fr e
  cases h
  exact ⟨ty, fr, e⟩
 ·cases h
theorem QmE {P : Program} {W : World} {nm : String} {k : IntKind} {zs : List Int} {g : Nat} {t e : TypeId} {n : Nat}
  (hg : P.globalNamed nm = some g) (hty : (P.globals[g]?).map (·.type) = some t) (ht : P.underlying t = some (.array n e)) (he : P.underlying e = some (.int k)) (hce : P.cellsOf e = 1) (hct : P.cellsOf t = n)
  (h : laidMet P [(nm, Lib.tabData k zs)] W) : ∃ ty fr, W.heap[g]? = some (.cells (zs.map fun z => Value.int k z).toArray ty fr) :=
 Qlj hg (Lib.tabIs_of_head hg hty ht he hce hct h)
end Go.Proofs.YtniljpjjnmkoaaaGreatDoor.Ab
set_option maxRecDepth 4000
namespace Go.Proofs.YtniljpjjnmkoaaaGreatDoor.Ab
open Go.Proofs
theorem Qce (x : Int) (h0 : 0 ≤ x) (h1 : x ≤ 12) : Pure Tryz.prog 148 [.v (.int .u64 x)] (.i (Lib.bitLen x.toNat : Nat)) := by
 refine QiC (vs := [.int .u64 x]) Tryz.call148 fun w => ?_
 refine (Tryz.bits_Len x w h0 (by omega)).mono ?_
 rintro e w' ⟨rfl, rfl⟩
 exact ⟨_, rfl, Go.RowKit.Below.refl _ _, fun c' => .v _⟩
theorem Qoy (x : Int) (h0 : 0 ≤ x) (h1 : x ≤ 12) : pv Tryz.prog (convert 3 176 (.int .i64 x)) = some (.int .u64 x) := by
 rw [QkT Tryz.prog 3 176 (ts := .int .i64) (kd := .u64) (by kernel_rfl) (by kernel_rfl)]
 have : IntKind.u64.wrap x = x := by simp [IntKind.wrap, IntKind.bits, IntKind.signed]; omega
 rw [this]
theorem QlQ (l : List G) (hb : l.length ≤ 12) (hn : ∀ g ∈ l, ndsL g.args ≤ 1000000) (k : Int) (h : AH) (id : Nat) (hid : id < h.length) :
  Xf Tryz.prog 147 [.arr id 0 l.length, .i 0, .i l.length, .i k, .fn (.func 52) [] []] (hs h id (.cells 45 2 (vs G.atom l))) fun o h' =>
   o = .ret (.tup []) ∧ h' = hs h id (.cells 45 2 (vs G.atom (YA cmpG l))) := by
 have c1 := QdS l hb hn h id hid
 have w1 : IntKind.i64.wrap (l.length : Int) = (l.length : Int) := Xp (by omega)
 have h12 : (l.length : Int) ≤ 12 := by omega
 refine Qh Tryz.func147 rfl Tryz.call147 Tryz.ntmps147 (congrArg Array.toList Tryz.results147) (by simp) ?_
 repeat (first | (((with_reducible refine Qa fun K E hK hE => ?_)); simp -implicitDefEqProofs only [Q4, Q2, Qf, OpW, aop, AS.ev, Q6, Xq, Nat.reduceLT]) | (with_reducible refine Qi ?_) | ((with_reducible refine hK _ ?_); clear hK))
 obtain ⟨I, hI⟩ : ∃ I : Nat → AS → Prop, I = fun m' s => m' = 0 ∧ s.tm 0 = .arr id 0 l.length ∧ s.tm 1 = .i 0 ∧ s.tm 2 = .i l.length ∧ s.tm 3 = .i k ∧ s.tm 4 = .fn (.func 52) [] [] ∧ s.h = hs h id (.cells 45 2 (vs G.atom l)) := ⟨_, rfl⟩; refine QI I ?_ (m := 0) ?_
 ·intro m' s hs; rw [hI] at hs; obtain ⟨tm, hp⟩ := s; dsimp only at hs; obtain ⟨rfl, t0, t1, t2, t3, t4, rfl⟩ := hs
  repeat (first | ((first | (with_reducible (first | refine Qa fun K E hK hE => ?_ | refine FunW.ret (FunW.call c1) ?_))); simp -implicitDefEqProofs only [Qe, Qf, OpW, QK, aop, AS.ev, ↓reduceIte, aBin, Int.sub_zero, t0, t1, t2, t4, w1, h12, seval]) | (with_reducible (first | refine Qd fun K hK => ?_ | refine Qi ?_ | refine Qj ?_ | refine Qq ?_ | refine Qs ?_)) | ((with_reducible refine hK _ ?_); clear hK) | (refine Qg rfl ?_; simp only [↓reduceIte]))
  exact ⟨.tup [], rfl, .inr ⟨rfl, rfl⟩⟩
 ·rw [hI]
  exact ⟨rfl, rfl, rfl, rfl, rfl, rfl, rfl⟩
theorem Qk9 (l : List G) (hb : l.length ≤ 12) (hn : ∀ g ∈ l, ndsL g.args ≤ 1000000) (h : AH) (id : Nat) (hid : id < h.length) :
  Xf Tryz.prog 125 [.arr id 0 l.length, .fn (.func 52) [] []] (hs h id (.cells 45 2 (vs G.atom l))) fun o h' =>
   o = .ret (.tup []) ∧ h' = hs h id (.cells 45 2 (vs G.atom (YA cmpG l))) := by
 have g1 := fun x => Qc6 hid x
 have cb := Qce l.length (by omega) (by omega)
 have cv := Qoy l.length (by omega) (by omega)
 have c1 := fun k => QlQ l hb hn k h id hid
 refine Qh Tryz.func125 rfl Tryz.call125 Tryz.ntmps125 (congrArg Array.toList Tryz.results125) (by simp) ?_
 repeat (first | ((first | (with_reducible (first | refine Qa fun K E hK hE => ?_ | refine Qk fun K E hK hE => ?_ | refine Qp cb ?_ | refine FunW.ret (FunW.call (c1 _)) ?_))); simp -implicitDefEqProofs only [Qe, Qf, OpW, QK, aop, undef, AS.ev, Qv, ↓reduceIte, aLen, goInt, un30, g1, cv, seval]) | ((with_reducible refine hK _ ?_); clear hK))
 exact ⟨.tup [], rfl, .inr ⟨rfl, rfl⟩⟩
theorem QfN : Pure Tryz.prog 157 [.sl 2 [] none, .i 0, .i 0, .fn (.func 52) [] []] (.tup []) := by
 intro h
 have h1 : ¬ ((1 : Int) < 0) := by decide
 refine Qh Tryz.func157 rfl Tryz.call157 Tryz.ntmps157 (congrArg Array.toList Tryz.results157) (by simp) ?_
 repeat (first | (((with_reducible refine Qa fun K E hK hE => ?_)); simp -implicitDefEqProofs only [Qe, Qf, OpW, aop, undef, AS.ev, Qv, ↓reduceIte, Nat.reduceLT, aBin]) | (with_reducible refine Qi ?_) | ((with_reducible refine hK _ ?_); clear hK))
 obtain ⟨I, hI⟩ : ∃ I : Nat → AS → Prop, I = fun m' s => m' = 0 ∧ s.tm 8 = .i 1 ∧ s.tm 2 = .i 0 ∧ s.h = h := ⟨_, rfl⟩; refine QI I ?_ (m := 0) ?_
 ·intro m' s hs; rw [hI] at hs; obtain ⟨tm, hp⟩ := s; dsimp only at hs; obtain ⟨rfl, t8, t2, rfl⟩ := hs
  repeat (first | (((with_reducible refine Qa fun K E hK hE => ?_)); simp -implicitDefEqProofs only [Qe, Qf, OpW, aop, AS.ev, ↓reduceIte, aBin, t8, t2, h1, seval]) | (with_reducible (first | refine Qd fun K hK => ?_ | refine QC ?_ | refine Qw ?_ | refine Qy ?_)) | ((with_reducible refine hK _ ?_); clear hK) | (refine Qg rfl ?_; simp only [↓reduceIte, QpQ]))
  exact ⟨.tup [], rfl, .inr ⟨rfl, rfl⟩⟩
 ·rw [hI]
  exact ⟨rfl, rfl, rfl, rfl⟩
theorem Qnv (k : Int) : Pure Tryz.prog 147 [.sl 2 [] none, .i 0, .i 0, .i k, .fn (.func 52) [] []] (.tup []) := by
 intro h
 have c1 := QfN
 have h12 : (0 : Int) ≤ 12 := by decide
 have w1 : IntKind.i64.wrap 0 = 0 := by decide
 refine Qh Tryz.func147 rfl Tryz.call147 Tryz.ntmps147 (congrArg Array.toList Tryz.results147) (by simp) ?_
 repeat (first | (((with_reducible refine Qa fun K E hK hE => ?_)); simp -implicitDefEqProofs only [Q4, Q2, Qf, OpW, aop, AS.ev, Q6, Xq, Nat.reduceLT]) | (with_reducible refine Qi ?_) | ((with_reducible refine hK _ ?_); clear hK))
 obtain ⟨I, hI⟩ : ∃ I : Nat → AS → Prop, I = fun m' s => m' = 0 ∧ s.tm 0 = .sl 2 [] none ∧ s.tm 1 = .i 0 ∧ s.tm 2 = .i 0 ∧ s.tm 3 = .i k ∧ s.tm 4 = .fn (.func 52) [] [] ∧ s.h = h := ⟨_, rfl⟩; refine QI I ?_ (m := 0) ?_
 ·intro m' s hs; rw [hI] at hs; obtain ⟨tm, hp⟩ := s; dsimp only at hs; obtain ⟨rfl, t0, t1, t2, t3, t4, rfl⟩ := hs
  repeat (first | ((first | (with_reducible (first | refine Qa fun K E hK hE => ?_ | refine Qp c1 ?_))); simp -implicitDefEqProofs only [Qe, Qf, OpW, QK, aop, AS.ev, ↓reduceIte, aBin, Int.sub_zero, t0, t1, t2, t4, w1, h12, seval]) | (with_reducible (first | refine Qd fun K hK => ?_ | refine Qi ?_ | refine Qj ?_ | refine Qq ?_ | refine Qs ?_)) | ((with_reducible refine hK _ ?_); clear hK) | (refine Qg rfl ?_; simp only [↓reduceIte]))
  exact ⟨.tup [], rfl, .inr ⟨rfl, rfl⟩⟩
 ·rw [hI]
  exact ⟨rfl, rfl, rfl, rfl, rfl, rfl, rfl⟩
theorem Qmk : Pure Tryz.prog 125 [.sl 2 [] none, .fn (.func 52) [] []] (.tup []) := by
 intro h
 have cb := Qce 0 (by omega) (by omega)
 have cv := Qoy 0 (by omega) (by omega)
 have c1 := fun k => Qnv k
 refine Qh Tryz.func125 rfl Tryz.call125 Tryz.ntmps125 (congrArg Array.toList Tryz.results125) (by simp) ?_
 repeat (first | ((first | (with_reducible (first | refine Qa fun K E hK hE => ?_ | refine Qk fun K E hK hE => ?_ | refine Qp cb ?_ | refine Qp (c1 _) ?_))); simp -implicitDefEqProofs only [Qe, Qf, OpW, QK, aop, undef, AS.ev, Qv, ↓reduceIte, aLen, goInt, un30, cv, seval]) | ((with_reducible refine hK _ ?_); clear hK))
 exact ⟨.tup [], rfl, .inr ⟨rfl, rfl⟩⟩
def QiM : Nat → List Int → List (List Int)
 | 0, _ => [[]]
 | k + 1, l => (List.range l.length).flatMap fun i => (QiM k (l.eraseIdx i)).map fun t => l.getD i 0 :: t
def ords (l : List Int) : List (List Int) := QiM l.length l
theorem Qbl {l : List Int} {i : Nat} (h : i < l.length) : (l.getD i 0 :: l.eraseIdx i).Perm l := by
 have e : l.getD i 0 = l[i] := by rw [List.getD_eq_getElem?_getD, List.getElem?_eq_getElem h]; rfl
 rw [e, List.eraseIdx_eq_take_drop_succ]
 refine (List.perm_middle.symm).trans ?_
 rw [List.getElem_cons_drop, List.take_append_drop]
theorem Qdv : ∀ (k : Nat) (l p : List Int), l.length = k → (p ∈ QiM k l ↔ p.Perm l)
 | 0, l, p, hl => by
  have : l = [] := List.eq_nil_of_length_eq_zero hl
  subst this
  simp [QiM]
 | k + 1, l, p, hl => by
  simp only [QiM, List.mem_flatMap, List.mem_range, List.mem_map]
  constructor
  ·rintro ⟨i, hi, t, ht, rfl⟩
   have hlen : (l.eraseIdx i).length = k := by rw [List.length_eraseIdx_of_lt hi]; omega
   exact (((Qdv k _ t hlen).1 ht).cons _).trans (Qbl hi)
  ·intro hp
   cases p with
   | nil => have := hp.length_eq; simp at this; omega
   | cons a t =>
    obtain ⟨i, hi, e⟩ := List.getElem_of_mem (hp.mem_iff.1 (List.mem_cons_self ..))
    have hlen : (l.eraseIdx i).length = k := by rw [List.length_eraseIdx_of_lt hi]; omega
    have e2 : l.getD i 0 = a := by rw [List.getD_eq_getElem?_getD, List.getElem?_eq_getElem hi, e]; rfl
    refine ⟨i, hi, t, (Qdv k _ t hlen).2 ?_, by rw [e2]⟩
    have := hp.trans (Qbl hi).symm
    rw [e2] at this
    exact (List.perm_cons a).1 this
theorem QaM {l p : List Int} : p ∈ ords l ↔ p.Perm l := Qdv _ _ _ rfl
def Qc4 (n : Int) (c : Ct) (e : List Int) (E : List (List Int)) : Ct := Y2 cmpA (c.ans (toF n e)) (E.map fun p => c.ans (toF n p))
theorem Qi6 (n : Int) (c : Ct) (e : List Int) (E : List (List Int)) : ∃ p ∈ e :: E, Qc4 n c e E = c.ans (toF n p) := by
 have h := Zt cmpA (E.map fun p => c.ans (toF n p)) (c.ans (toF n e))
 rcases List.mem_cons.1 h with h | h
 ·exact ⟨e, by simp, h⟩
 ·obtain ⟨p, hp, h⟩ := List.mem_map.1 h
  exact ⟨p, by simp [hp], h.symm⟩
theorem Qfw {n : Int} {c : Ct} {e : List Int} {E : List (List Int)} {y : Ct} : y ∈ c.ans (toF n e) :: E.map (fun p => c.ans (toF n p)) ↔ ∃ p ∈ e :: E, y = c.ans (toF n p) := by
 rw [show c.ans (toF n e) :: E.map (fun p => c.ans (toF n p)) = (e :: E).map fun p => c.ans (toF n p) from rfl, List.mem_map]
 exact ⟨fun ⟨p, h1, h2⟩ => ⟨p, h1, h2.symm⟩, fun ⟨p, h1, h2⟩ => ⟨p, h1, h2.symm⟩⟩
theorem QdX {n : Int} {c c' : Ct} {h : Int → Int} {L L' e e' : List Int} {E E' : List (List Int)} (hv : c'.vals = maps h c.vals) (hs : c'.store.Perm (c.store.map (G.map h)))
  (hi : ∀ v ∈ c.vars, ∀ w ∈ c.vars, h v = h w → v = w) (hf : ∀ v ∈ c.vars, v < n → h v = v) (hb : ∀ v ∈ c.vars, n ≤ v → n ≤ h v)
  (hL : ∀ v, v ∈ L ↔ v ∈ c.vars ∧ n ≤ v) (hLL : (L.map h).Perm L') (hE : ∀ p, p ∈ e :: E ↔ p.Perm L) (hE' : ∀ p, p ∈ e' :: E' ↔ p.Perm L')
  (he : ∀ p, p.Perm L → ∀ a ∈ c.store.map (G.map (toF n p)), ∀ b ∈ c.store.map (G.map (toF n p)), cmpG a b = 0 → a = b) :
  cmpA (Qc4 n c e E) (Qc4 n c' e' E') = 0 := by
 refine Qdp ordA (fun y hy => ?_) fun y hy => ?_
 ·obtain ⟨p, h1, rfl⟩ := Qfw.1 hy
  have hp := (hE p).1 h1
  refine ⟨_, Qfw.2 ⟨p.map h, (hE' _).2 ((hp.map h).trans hLL), rfl⟩, ?_⟩
  rw [Qdc hv hs hi hf hb hL hp (he p hp), ordA.refl]; exact Int.le_refl 0
 ·obtain ⟨q, h1, rfl⟩ := Qfw.1 hy
  obtain ⟨p, hp, rfl⟩ := QjA hLL ((hE' q).1 h1)
  refine ⟨_, Qfw.2 ⟨p, (hE p).2 hp, rfl⟩, ?_⟩
  rw [Qdc hv hs hi hf hb hL hp (he p hp), ordA.refl]; exact Int.le_refl 0
mutual
def T.okC : T → Prop
 | .mk k i n l => ((k = 0 ∨ k = 1) ∧ n.size = 0 ∧ l = []) ∨ (k = 2 ∧ i = 0 ∧ oksC l)
def oksC : List T → Prop
 | [] => True
 | t :: l => t.okC ∧ oksC l
end
theorem QgL : ∀ {l m : List UInt8}, cmpB l m = 0 → l = m
 | [], [], _ => rfl
 | [], _ :: _, h => by simp [cmpB] at h
 | _ :: _, [], h => by simp [cmpB] at h
 | a :: l, b :: m, h => by
  rw [cmpB] at h
  obtain ⟨h1, h2⟩ := Zj.1 h
  have := QaI.1 h1
  rw [QgL h2, UInt8.toNat_inj.1 (by omega : a.toNat = b.toNat)]
theorem QgE {a b : ByteArray} (h : cmpS a b = 0) : a = b := by
 rw [QeH] at h
 have := QgL h
 rw [Lib.toList_data, Lib.toList_data] at this
 exact ByteArray.ext (Array.toList_inj.1 this)
theorem QfU {a b : ByteArray} (h : a.size = 0) (k : b.size = 0) : a = b := by
 refine ByteArray.ext ?_
 have h' : a.data.size = 0 := h
 have k' : b.data.size = 0 := k
 rw [Array.eq_empty_of_size_eq_zero h', Array.eq_empty_of_size_eq_zero k']
mutual
theorem Qf0 : ∀ {a b : T}, a.okC → b.okC → cmpT a b = 0 → a = b
 | .mk k i n l, .mk k' i' n' l', ha, hb, h => by
  rw [QaG] at h
  obtain ⟨h1, h2⟩ := Zj.1 h
  have h1 := QaI.1 h1
  have ih := @Qbv l l'
  rw [T.okC] at ha hb
  have hk : k = k' := by
   rcases ha with ⟨ha | ha, _⟩ | ⟨ha, _⟩ <;> rcases hb with ⟨hb | hb, _⟩ | ⟨hb, _⟩ <;> subst ha <;> subst hb <;> simp [Xg] at h1 <;> rfl
  subst hk
  rcases ha with ⟨hk, ha1, rfl⟩ | ⟨rfl, rfl, ha3⟩
  ·rcases hb with ⟨_, hb1, rfl⟩ | ⟨hk2, _⟩
   ·have hr : Xg k = 0 ∨ Xg k = 1 := by rcases hk with rfl | rfl <;> simp [Xg]
    rw [QjP, if_pos hr] at h2
    rw [QaI.1 h2, QfU ha1 hb1]
   ·omega
  ·rcases hb with ⟨hk2, _⟩ | ⟨_, rfl, hb3⟩
   ·omega
   ·rw [show Xg 2 = 2 from rfl, QjP, if_neg (by decide), if_pos rfl] at h2
    obtain ⟨h3, h4⟩ := Zj.1 h2
    obtain ⟨h5, h6⟩ := Zj.1 h4
    rw [QgE h5, ih ha3 hb3 h6]
theorem Qbv : ∀ {l m : List T}, oksC l → oksC m → cmpL l m = 0 → l = m
 | [], [], _, _, _ => rfl
 | [], _ :: _, _, _, h => by simp [cmpL] at h
 | _ :: _, [], _, _, h => by simp [cmpL] at h
 | a :: l, b :: m, ha, hb, h => by
  rw [QaH] at h
  obtain ⟨h1, h2⟩ := Zj.1 h
  rw [oksC] at ha hb
  rw [Qf0 ha.1 hb.1 h1, Qbv ha.2 hb.2 h2]
end
theorem Qhh {a b : G} (ha : oksC a.args) (hb : oksC b.args) (ho : a.op = b.op) (h : cmpG a b = 0) : a = b := by
 obtain ⟨h1, h2⟩ := Zj.1 h
 obtain ⟨h3, _⟩ := Zj.1 h1
 cases a; cases b
 simp only at *
 rw [ho, QgE h3, Qbv ha hb h2]
mutual
theorem Qm7 (f : Int → Int) : ∀ {t : T}, t.okC → (t.map f).okC
 | .mk k i n l, h => by
  have ih := @Qav f l
  rw [T.okC] at h
  rw [T.map]
  rcases h with ⟨rfl | rfl, h2, rfl⟩ | ⟨rfl, h2, h3⟩
  ·rw [if_neg (by decide), if_neg (by decide), T.okC]; exact .inl ⟨.inl rfl, h2, rfl⟩
  ·rw [if_pos rfl, T.okC]; exact .inl ⟨.inr rfl, h2, rfl⟩
  ·rw [if_neg (by decide), if_pos rfl, T.okC]; exact .inr ⟨rfl, h2, ih h3⟩
theorem Qav (f : Int → Int) : ∀ {l : List T}, oksC l → oksC (maps f l)
 | [], _ => by simp [maps, oksC]
 | t :: l, h => by
  rw [oksC] at h
  rw [maps, oksC]
  exact ⟨Qm7 f h.1, Qav f h.2⟩
end
theorem Qi4 {l : List G} (h : ∀ g ∈ l, oksC g.args ∧ g.op = 0) (f : Int → Int) : ∀ a ∈ l.map (G.map f), ∀ b ∈ l.map (G.map f), cmpG a b = 0 → a = b := by
 intro a ha b hb hz
 obtain ⟨x, hx, rfl⟩ := List.mem_map.1 ha
 obtain ⟨y, hy, rfl⟩ := List.mem_map.1 hb
 exact Qhh (Qav f (h x hx).1) (Qav f (h y hy).1) ((h x hx).2.trans (h y hy).2.symm) hz
def toG (n : Int) (L σ : List Int) (v : Int) : Int := if v ∈ L then n + σ.getD (plc L v) 0 else v
def nums (k : Nat) : List Int := (List.range k).map Int.ofNat
theorem Qaw {k : Nat} {x : Int} : x ∈ nums k ↔ ∃ j, j < k ∧ x = (j : Nat) := by
 simp only [nums, List.mem_map, List.mem_range]
 exact ⟨fun ⟨j, h, e⟩ => ⟨j, h, e.symm⟩, fun ⟨j, h, e⟩ => ⟨j, h, e.symm⟩⟩
theorem QeJ (k : Nat) : (nums k).Nodup := by
 refine List.Pairwise.map _ (fun a b h => ?_) (List.nodup_range (n := k))
 intro e; exact h (Int.ofNat.inj e)
theorem nums_length (k : Nat) : (nums k).length = k := by simp [nums]
theorem getD_lt {l : List Int} {i : Nat} (h : i < l.length) : l.getD i 0 = l[i] := by rw [List.getD_eq_getElem?_getD, List.getElem?_eq_getElem h]; rfl
theorem QlP {n : Int} {L p : List Int} (hL : L.Nodup) (hp : p.Perm L) : ∃ σ : List Int, σ.Perm (nums L.length) ∧ ∀ v, toG n L σ v = toF n p v := by
 have hpn : p.Nodup := hp.nodup_iff.2 hL
 have hlen : p.length = L.length := hp.length_eq
 refine ⟨L.map fun v => ((plc p v : Nat) : Int), ?_, fun v => ?_⟩
 ·refine (List.perm_ext_iff_of_nodup ?_ (QeJ _)).2 fun x => ?_
  ·refine (List.pairwise_map.2 (hL.imp_of_mem fun {a b} ha hb hab e => hab ?_))
   have e : plc p a = plc p b := by omega
   have h1 := QbR (hp.mem_iff.2 ha)
   have h2 := QbR (hp.mem_iff.2 hb)
   rw [← h1, ← h2]
   simp only [e]
  ·rw [List.mem_map, Qaw]
   constructor
   ·rintro ⟨v, hv, rfl⟩
    exact ⟨plc p v, by rw [← hlen]; exact Qes (hp.mem_iff.2 hv), rfl⟩
   ·rintro ⟨j, hj, rfl⟩
    have hj' : j < p.length := by omega
    exact ⟨p[j], hp.mem_iff.1 (List.getElem_mem hj'), by rw [Qb8 hpn hj']⟩
 ·unfold toG toF
  by_cases hv : v ∈ L
  ·rw [if_pos hv, if_pos (hp.mem_iff.2 hv), getD_lt (by rw [List.length_map]; exact Qes hv), List.getElem_map, QbR hv]
  ·rw [if_neg hv, if_neg (fun h => hv (hp.mem_iff.1 h))]
theorem Qis {n : Int} {L σ : List Int} (hL : L.Nodup) (hs : σ.Perm (nums L.length)) : ∃ p : List Int, p.Perm L ∧ ∀ v, toG n L σ v = toF n p v := by
 have hsn : σ.Nodup := hs.nodup_iff.2 (QeJ _)
 have hlen : σ.length = L.length := hs.length_eq.trans (nums_length _)
 have hin : ∀ j, j < L.length → ((j : Nat) : Int) ∈ σ := fun j hj => hs.mem_iff.2 (Qaw.2 ⟨j, hj, rfl⟩)
 have hpl : ∀ j, j < L.length → plc σ j < L.length := fun j hj => hlen ▸ Qes (hin j hj)
 let p := (List.range L.length).map fun j => L.getD (plc σ ((j : Nat) : Int)) 0
 have hplen : p.length = L.length := by simp [p]
 have hget : ∀ j (h : j < L.length), p[j]'(by omega) = L[plc σ ((j : Nat) : Int)]'(hpl j h) := by
  intro j h
  simp only [p, List.getElem_map, List.getElem_range]
  exact getD_lt (hpl j h)
 have hpn : p.Nodup := by
  refine List.pairwise_map.2 ((List.nodup_range (n := L.length)).imp_of_mem fun {a b} ha hb hab e => hab ?_)
  have ha := List.mem_range.1 ha
  have hb := List.mem_range.1 hb
  rw [getD_lt (hpl a ha), getD_lt (hpl b hb)] at e
  have e2 : plc σ ((a : Nat) : Int) = plc σ ((b : Nat) : Int) := by
   have h1 := Qb8 hL (hpl a ha)
   have h2 := Qb8 hL (hpl b hb)
   rw [← h1, ← h2, e]
  have h3 := QbR (hin a ha)
  have h4 := QbR (hin b hb)
  have h5 : ((a : Nat) : Int) = b := by rw [← h3, ← h4]; simp only [e2]
  omega
 have hval : ∀ v, v ∈ L → ∃ j, ∃ h : j < L.length, σ.getD (plc L v) 0 = (j : Nat) ∧ p[j]'(by omega) = v := by
  intro v hv
  have h1 : plc L v < σ.length := by rw [hlen]; exact Qes hv
  obtain ⟨j, hj, e⟩ := Qaw.1 (hs.mem_iff.1 (List.getElem_mem h1))
  refine ⟨j, hj, by rw [getD_lt h1, e], ?_⟩
  rw [hget j hj]
  have h2 : plc σ ((j : Nat) : Int) = plc L v := by rw [← e]; exact Qb8 hsn h1
  simp only [h2]
  exact QbR hv
 have hperm : p.Perm L := by
  refine (List.perm_ext_iff_of_nodup hpn hL).2 fun v => ⟨fun hv => ?_, fun hv => ?_⟩
  ·obtain ⟨j, hj, rfl⟩ := List.getElem_of_mem hv
   rw [hget j (by omega)]
   exact List.getElem_mem _
  ·obtain ⟨j, hj, _, e⟩ := hval v hv
   rw [← e]; exact List.getElem_mem _
 refine ⟨p, hperm, fun v => ?_⟩
 unfold toG toF
 by_cases hv : v ∈ L
 ·rw [if_pos hv, if_pos (hperm.mem_iff.2 hv)]
  obtain ⟨j, hj, e1, e2⟩ := hval v hv
  rw [e1]
  have := Qb8 hpn (by omega : j < p.length)
  rw [e2] at this
  rw [this]
 ·rw [if_neg hv, if_neg (fun h => hv (hperm.mem_iff.1 h))]
end Go.Proofs.YtniljpjjnmkoaaaGreatDoor.Ab
set_option maxRecDepth 100000
namespace Go.Proofs.YtniljpjjnmkoaaaGreatDoor.Ab
def pivot (l : List Int) : Nat → Int
 | 0 => -1
 | i + 1 => if l.getD (i + 1) 0 < l.getD i 0 then pivot l i else (i : Nat)
def above (l : List Int) (x : Int) : Nat → Nat
 | 0 => 0
 | k + 1 => if l.getD (k + 1) 0 < x then above l x k else k + 1
def QdW (l : List Int) : Option (List Int) :=
 let i := pivot l (l.length - 1)
 if i < 0 then none else
 let i := i.toNat
 let k := above l (l.getD i 0) (l.length - 1)
 let m := (l.set i (l.getD k 0)).set k (l.getD i 0)
 some (m.take (i + 1) ++ (m.drop (i + 1)).reverse)
def XL : Nat → List Int → List (List Int)
 | 0, l => [l]
 | k + 1, l => l :: match QdW l with
  | some m => XL k m
  | none => []
theorem QnP : XL 720 (nums 0) = ords (nums 0) := by decide +kernel
theorem Qoa : XL 720 (nums 1) = ords (nums 1) := by decide +kernel
theorem Qoi : XL 720 (nums 2) = ords (nums 2) := by decide +kernel
theorem Qoz : XL 720 (nums 3) = ords (nums 3) := by decide +kernel
theorem QnS : XL 720 (nums 4) = ords (nums 4) := by decide +kernel
theorem Qoj : XL 720 (nums 5) = ords (nums 5) := by decide +kernel
theorem Qn0 : XL 720 (nums 6) = ords (nums 6) := by decide +kernel
theorem Qdm {n : Nat} (h : n ≤ 6) : XL 720 (nums n) = ords (nums n) := by
 match n, h with
 | 0, _ => exact QnP
 | 1, _ => exact Qoa
 | 2, _ => exact Qoi
 | 3, _ => exact Qoz
 | 4, _ => exact QnS
 | 5, _ => exact Qoj
 | 6, _ => exact Qn0
theorem QgN (h : Int → Int) : ∀ l : List G, Qe3 (l.map (G.map h)) = (Qe3 l).map h
 | [] => rfl
 | g :: l => by
  have ih := QgN h l
  simp only [Qe3, Qp1, List.flatMap_cons, List.map_append] at ih ⊢
  rw [ih]
  simp only [G.map, QaL]
theorem Qji {l m : List G} (hp : l.Perm m) {v : Int} : v ∈ Qe3 l ↔ v ∈ Qe3 m := by
 simp only [Qe3, List.mem_flatMap]
 exact ⟨fun ⟨g, h1, h2⟩ => ⟨g, hp.mem_iff.1 h1, h2⟩, fun ⟨g, h1, h2⟩ => ⟨g, hp.mem_iff.2 h1, h2⟩⟩
theorem Qcj {c c' : Ct} {h : Int → Int} (hv : c'.vals = maps h c.vals) (hs : c'.store.Perm (c.store.map (G.map h))) (v : Int) : v ∈ c'.vars ↔ ∃ w ∈ c.vars, h w = v := by
 simp only [Ct.vars, List.mem_append, hv, QaL, Qji hs, QgN, List.mem_map]
 constructor
 ·rintro (⟨w, h1, h2⟩ | ⟨w, h1, h2⟩)
  ·exact ⟨w, .inl h1, h2⟩
  ·exact ⟨w, .inr h1, h2⟩
 ·rintro ⟨w, h1 | h1, h2⟩
  ·exact .inl ⟨w, h1, h2⟩
  ·exact .inr ⟨w, h1, h2⟩
theorem QaQ {n : Int} {c c' : Ct} {h : Int → Int} {L L' : List Int} (hv : c'.vals = maps h c.vals) (hs : c'.store.Perm (c.store.map (G.map h)))
  (hi : ∀ v ∈ c.vars, ∀ w ∈ c.vars, h v = h w → v = w) (hf : ∀ v ∈ c.vars, v < n → h v = v) (hb : ∀ v ∈ c.vars, n ≤ v → n ≤ h v)
  (hn : L.Nodup) (hn' : L'.Nodup) (hL : ∀ v, v ∈ L ↔ v ∈ c.vars ∧ n ≤ v) (hL' : ∀ v, v ∈ L' ↔ v ∈ c'.vars ∧ n ≤ v) : (L.map h).Perm L' := by
 refine (List.perm_ext_iff_of_nodup ?_ hn').2 fun v => ?_
 ·exact List.pairwise_map.2 (hn.imp_of_mem fun {a b} ha hb' hab e => hab (hi a ((hL a).1 ha).1 b ((hL b).1 hb').1 e))
 ·rw [hL', Qcj hv hs, List.mem_map]
  constructor
  ·rintro ⟨w, hw, rfl⟩
   obtain ⟨h1, h2⟩ := (hL w).1 hw
   exact ⟨⟨w, h1, rfl⟩, hb w h1 h2⟩
  ·rintro ⟨⟨w, hw, rfl⟩, h2⟩
   rcases Int.lt_or_le w n with q | q
   ·have := hf w hw q; omega
   ·exact ⟨w, (hL w).2 ⟨hw, q⟩, rfl⟩
mutual
def T.ren (m : Int → Option Int) : T → T
 | .mk k i n l => if k = 1 then (match m i with | some j => .mk 1 j ⟨#[]⟩ [] | none => .mk k i n l) else if k = 2 then .mk k i n (rens m l) else .mk k i n l
def rens (m : Int → Option Int) : List T → List T
 | [] => []
 | t :: l => t.ren m :: rens m l
end
mutual
theorem T.QpF (m : Int → Option Int) : ∀ {t : T}, t.okC → t.ren m = t.map fun v => (m v).getD v
 | .mk k i n l, h => by
  have ih := @QcM m l
  rw [T.okC] at h
  rw [T.ren, T.map]
  by_cases h1 : k = 1
  ·subst h1
   rw [if_pos rfl, if_pos rfl]
   rcases h with ⟨_, h2, rfl⟩ | ⟨h2, _⟩
   ·have e : n = ⟨#[]⟩ := QfU h2 rfl
    subst e
    cases m i <;> rfl
   ·omega
  ·rw [if_neg h1, if_neg h1]
   by_cases h2 : k = 2
   ·rw [if_pos h2, if_pos h2]
    rcases h with ⟨h3 | h3, _⟩ | ⟨_, _, h3⟩
    ·omega
    ·omega
    ·rw [ih h3]
   ·rw [if_neg h2, if_neg h2]
theorem QcM (m : Int → Option Int) : ∀ {l : List T}, oksC l → rens m l = maps (fun v => (m v).getD v) l
 | [], _ => rfl
 | t :: l, h => by
  rw [oksC] at h
  rw [rens, maps, T.QpF m h.1, QcM m h.2]
end
theorem Qc7 (m : Int → Option Int) : ∀ l : List T, (rens m l).length = l.length
 | [] => rfl
 | t :: l => by rw [rens, List.length_cons, List.length_cons, Qc7 m l]
theorem QdN (m : Int → Option Int) : ∀ l r : List T, rens m (l ++ r) = rens m l ++ rens m r
 | [], r => rfl
 | t :: l, r => by rw [List.cons_append, rens, rens, QdN m l r, List.cons_append]
theorem Qki (m : Int → Option Int) (l : List T) {k : Nat} (h : k < l.length) : rens m (l.take (k + 1)) = rens m (l.take k) ++ [l[k].ren m] := by
 rw [List.take_add_one, List.getElem?_eq_getElem h, QdN]; rfl
def toM (n : Int) (p : List Int) (v : Int) : Option Int := if v ∈ p then some (n + (plc p v : Nat)) else none
def toMG (n : Int) (L σ : List Int) (v : Int) : Option Int := if v ∈ L then some (n + σ.getD (plc L v) 0) else none
theorem QiB (n : Int) (p : List Int) (v : Int) : (toM n p v).getD v = toF n p v := by unfold toM toF; split <;> rfl
theorem Qlg (n : Int) (L σ : List Int) (v : Int) : (toMG n L σ v).getD v = toG n L σ v := by unfold toMG toG; split <;> rfl
set_option maxRecDepth 4000
open Go.Proofs
theorem Qg0 (n : Int) : Pure Tryz.prog 37 [.i n] (T.mk 1 n { data := #[] } []).av := by
 intro h
 refine Qh Tryz.func37 rfl Tryz.call37 Tryz.ntmps37 (congrArg Array.toList Tryz.results37) (by simp) ?_
 repeat (first | (((with_reducible refine Qa fun K E hK hE => ?_)); simp -implicitDefEqProofs only [Qe, Qf, OpW, aop, undef, AS.ev, Qv, AV.QoY, ↓reduceIte, QO, QH, XA, XV, ti41, zi41, sp41, seval]) | (with_reducible refine Qj ?_) | ((with_reducible refine hK _ ?_); clear hK))
 simp -implicitDefEqProofs only [Qe, ↓reduceIte, QA, QB, ti41, QD, Ql, Qr, QpW, seval]
 exact Qc (r' := .agg [.i 1, .i n, .v (.string { data := #[] }), .sl 4 [] none]) (htake _ _) (.agg rfl (Xe (.keep (.v _)) (Xe (.keep (.v _)) (Xe (.keep (.v _)) (X3 (.nil 4)))))) ⟨by simp only [T.av, avs], rfl⟩
structure RenAt (pr pe pm it : Nat) (es : List (Int × AV)) (h : AH) : Prop where
 r : h[pr]? = some (.cells 158 1 [.fn (.func 124) [] [.ptr pm 0 0, .ptr pe 0 0]])
 e : h[pe]? = some (.cells 154 1 [.fn (.func 123) [] [.ptr pr 0 0]])
 m : h[pm]? = some (.cells 115 1 [.mp it])
 t : h[it]? = some (.map (imap es))
theorem RenAt.app {pr pe pm it : Nat} {es : List (Int × AV)} {h : AH} (H : RenAt pr pe pm it es h) (L : AH) : RenAt pr pe pm it es (h ++ L) := ⟨hext H.r L, hext H.e L, hext H.m L, hext H.t L⟩
theorem QdQ {m : Int → Option Int} {l : List T} {k : Nat} (h : k < l.length) : rens m (l.take (k + 1)) = rens m (l.take k) ++ [(l[k]).ren m] := Qki m l h
theorem Qil {pr pe pm it : Nat} {es : List (Int × AV)} {m : Int → Option Int} (n : Nat) (hb : n ≤ 1000000)
  (ih : ∀ t : T, t.nds ≤ n → ∀ h, RenAt pr pe pm it es h → Xf Tryz.prog 124 [t.av, .ptr pm 0 0, .ptr pe 0 0] h fun o h' => o = .ret (t.ren m).av ∧ h' = h)
  (l : List T) (hn : ndsL l ≤ n) (h : AH) (H : RenAt pr pe pm it es h) :
  Xf Tryz.prog 123 [.sl 4 (avs l) none, .ptr pr 0 0] h fun o h' => o = .ret (.sl 4 (avs (rens m l)) none) ∧ h' = h := by
 have hll := QW l
 have hr : ∀ L : AH, (h ++ L)[pr]? = some (.cells 158 1 [.fn (.func 124) [] [.ptr pm 0 0, .ptr pe 0 0]]) := fun L => (H.app L).r
 refine Qh Tryz.func123 rfl Tryz.call123 Tryz.ntmps123 (congrArg Array.toList Tryz.results123) (by simp) ?_
 repeat (first | (((with_reducible refine Qa fun K E hK hE => ?_)); simp -implicitDefEqProofs only [Qe, Qf, OpW, aop, undef, AS.ev, Qv, ↓reduceIte, aLen, goInt, un29, seval]) | (with_reducible (first | refine Qd fun K hK => ?_ | refine Qi ?_)) | ((with_reducible refine hK _ ?_); clear hK))
 refine XQ 4 41 4 rfl ?_
 obtain ⟨I, hI⟩ : ∃ I : Nat → AS → Prop, I = fun m' s => ∃ (j : Nat) (L : AH), m' = l.length - j ∧ j ≤ l.length ∧ s.tm 1 = .ptr pr 0 0 ∧ s.tm 4 = .sl 4 (avs (rens m (l.take j))) (some h.length) ∧ s.tm 7 = .sl 4 (avs l) none ∧ s.tm 8 = .i l.length ∧ s.tm 9 = .i j ∧ s.h = h ++ ([.grow 41 4 j] ++ L) := ⟨_, rfl⟩; refine QI I ?_ (m := l.length) ?_
 ·intro m' s hs; rw [hI] at hs; obtain ⟨tm, hp⟩ := s; dsimp only at hs; obtain ⟨j, L, rfl, hj, t1, t4, t7, t8, t9, rfl⟩ := hs
  by_cases hlt : j < l.length
  ·have hc : ∀ M : AH, FunW Tryz.prog (.fn (.func 124) [] [.ptr pm 0 0, .ptr pe 0 0]) [(l[j]).av] (h ++ M) fun o h' => o = .ret ((l[j]).ren m).av ∧ h' = h ++ M := fun M => FunW.fn (ih l[j] (Nat.le_trans (XM hlt) hn) _ (H.app M))
   have hml : (rens m (l.take j)).length = j := by rw [Qc7, List.length_take]; omega
   have hb1 : j + 1 ≤ maxLen := by simp only [maxLen]; omega
   have hb2 : (j + 1) * 56 ≤ 140737488355328 := by omega
   repeat (first | ((first | (with_reducible (first | refine Qa fun K E hK hE => ?_ | refine Qk fun K E hK hE => ?_ | refine FunW.ret (hc _) ?_))); simp -implicitDefEqProofs only [Qe, Qf, OpW, QK, aop, undef, AS.ev, AV.QoY, ↓reduceIte, QA, QB, QO, QH, Qt, aBin, QM, Xr, XS, ei29, ai29, ti41, zi41, Qox, t1, t4, t7, t8, t9, hlt, Q3 hlt, hr, hml, hb1, hb2, seval]) | (with_reducible (first | refine Qd fun K hK => ?_ | refine Qi ?_ | refine Qn ?_ | refine Qb ?_ | refine Qo ?_)) | ((with_reducible refine hK _ ?_); clear hK) | (refine Qg rfl ?_; simp only [↓reduceIte]))
   refine QV.mk (m' := l.length - (j + 1)) (by omega) ?_
   rw [hI]
   refine ⟨j + 1, L ++ [.cells 41 4 [(l[j]).av]], rfl, hlt, t1, ?_, t7, t8, ?_, by simp⟩
   ·simp only [upd, ↓reduceIte, Nat.reduceEqDiff]
    rw [QdQ hlt, Ye, Zi]
   ·simp only [upd, ↓reduceIte]
    rw [QP (by omega)]
  ·have hjl : j = l.length := by omega
   repeat (first | (((with_reducible refine Qa fun K E hK hE => ?_)); simp -implicitDefEqProofs only [Qe, Qf, OpW, aop, AS.ev, ↓reduceIte, aBin, t4, t8, t9, hlt, seval]) | (with_reducible (first | refine Qd fun K hK => ?_ | refine Qj ?_ | refine QC ?_ | refine Qb ?_ | refine Qw ?_ | refine Qy ?_)) | ((with_reducible refine hK _ ?_); clear hK) | (clear hK; (with_reducible refine hK _ ?_); clear hK) | (refine Qg rfl ?_; simp only [↓reduceIte, QpQ]))
   simp only [QD, Ql, Qr, upd, ↓reduceIte, QpS, QpW]; first | refine Qc (htake _ _) (.tok (YE _ _)) ⟨by rw [hjl, List.take_length], rfl⟩ | refine Qc List.take_length (.tok (YE _ _)) ⟨by rw [hjl, List.take_length], rfl⟩
 ·rw [hI]
  exact ⟨0, [], by omega, Nat.zero_le _, rfl, rfl, rfl, by simp only [upd, ↓reduceIte, Nat.reduceEqDiff], rfl, rfl⟩
theorem T.QpI (m : Int → Option Int) (t : T) : t.ren m = if t.kind = 1 then (match m t.int with | some j => .mk 1 j { data := #[] } [] | none => t) else if t.kind = 2 then .mk t.kind t.int t.name (rens m t.args) else t := by
 cases t; simp only [T.ren, T.kind, T.int, T.name, T.args]; rfl
theorem QkK {pr pe pm it : Nat} {es : List (Int × AV)} {m : Int → Option Int} (hes : ∀ v, QaO v es = (m v).map fun x => AV.i x) : ∀ n, n ≤ 1000000 → ∀ t : T, t.nds ≤ n → ∀ h, RenAt pr pe pm it es h →
  Xf Tryz.prog 124 [t.av, .ptr pm 0 0, .ptr pe 0 0] h fun o h' => o = .ret (t.ren m).av ∧ h' = h
 | 0, _, t, hn, _, _ => by have := T.Qo1 t; omega
 | n + 1, hbn, t, hn, h, H => by
  have e := T.QpI m t
  have hnd := T.Qo1 t
  have hEc : ∀ L : AH, (h ++ L)[pe]? = some (.cells 154 1 [.fn (.func 123) [] [.ptr pr 0 0]]) := fun L => (H.app L).e
  have hm : ∀ L : AH, (h ++ L)[pm]? = some (.cells 115 1 [.mp it]) := fun L => (H.app L).m
  have ht : ∀ L : AH, (h ++ L)[it]? = some (.map (imap es)) := fun L => (H.app L).t
  have hc : ∀ M : AH, FunW Tryz.prog (.fn (.func 123) [] [.ptr pr 0 0]) [.sl 4 (avs t.args) none] (h ++ M) fun o h' => o = .ret (.sl 4 (avs (rens m t.args)) none) ∧ h' = h ++ M := fun M =>
   FunW.fn (Qil n (by omega) (fun t ht h H => QkK hes n (by omega) t ht h H) t.args (by omega) _ (H.app M))
  have hf := Zu t.int es
  rw [hes] at hf
  cases hmv : m t.int with
  | some j =>
   rw [hmv] at hf e
   replace hf : QbU (.int .i64) (.int .i64 t.int) (imap es) = some (some (.i j)) := hf
   have cv := Qg0 j
   by_cases h1 : t.kind = 1
   ·have b1 : (t.kind == 1) = true := by simpa using h1
    rw [if_pos h1] at e
    refine Qh Tryz.func124 rfl Tryz.call124 Tryz.ntmps124 (congrArg Array.toList Tryz.results124) (by simp) ?_
    repeat (first | ((first | (with_reducible (first | refine Qa fun K E hK hE => ?_ | refine Qp cv ?_))); simp -implicitDefEqProofs only [Qe, Qf, OpW, QK, aop, undef, AS.ev, Qv, AV.QoY, ↓reduceIte, Qm, QA, QB, QO, QH, aBin, Xo, Yf, ti3, ti41, QX, Q9, zi41, Qe9, QiL, b1, hm, ht, hf, seval]) | (with_reducible (first | refine Qd fun K hK => ?_ | refine Qj ?_ | refine Qq ?_)) | ((with_reducible refine hK _ ?_); clear hK) | (refine Qg rfl ?_; simp only [↓reduceIte]))
    simp -implicitDefEqProofs only [Qe, ↓reduceIte, QA, QB, ti41, QD, Ql, Qr, QpW, seval]
    exact Qc (htake _ _) (.keep (T.Qo0 _ _)) ⟨by rw [e], rfl⟩
   ·have b1 : (t.kind == 1) = false := by simpa using h1
    rw [if_neg h1] at e
    by_cases h2 : t.kind = 2
    ·have b2 : (t.kind == 2) = true := by simpa using h2
     rw [if_pos h2] at e
     refine Qh Tryz.func124 rfl Tryz.call124 Tryz.ntmps124 (congrArg Array.toList Tryz.results124) (by simp) ?_
     repeat (first | ((first | (with_reducible (first | refine Qa fun K E hK hE => ?_ | refine Qk fun K E hK hE => ?_ | refine FunW.ret (hc _) ?_))); simp -implicitDefEqProofs only [Qe, Qf, OpW, QK, aop, undef, AS.ev, Qv, AV.QoY, ↓reduceIte, Qm, QA, QB, QO, QH, aBin, Xo, Yf, ti3, ti29, ti41, QX, Q9, Xc, zi41, Qe9, QiL, QlF, b1, b2, hEc, hm, ht, hf, seval]) | (with_reducible (first | refine Qd fun K hK => ?_ | refine Qj ?_ | refine Qn ?_ | refine Qb ?_)) | ((with_reducible refine hK _ ?_); clear hK) | (refine Qg rfl ?_; simp only [↓reduceIte, QpQ]))
     simp -implicitDefEqProofs only [Qe, ↓reduceIte, QA, QB, ti41, QD, Ql, Qr, QpW, seval]
     rw [T.Qo9]
     exact Qc (htake _ _) (.keep (T.Qo0 _ _)) ⟨by rw [e], rfl⟩
    ·have b2 : (t.kind == 2) = false := by simpa using h2
     rw [if_neg h2] at e
     refine Qh Tryz.func124 rfl Tryz.call124 Tryz.ntmps124 (congrArg Array.toList Tryz.results124) (by simp) ?_
     repeat (first | (((with_reducible refine Qa fun K E hK hE => ?_)); simp -implicitDefEqProofs only [Qe, Qf, OpW, aop, undef, AS.ev, Qv, AV.QoY, ↓reduceIte, Qm, QA, QB, QO, QH, aBin, Xo, Yf, ti3, ti41, QX, Q9, zi41, Qe9, QiL, b1, b2, hm, ht, hf, seval]) | (with_reducible (first | refine Qd fun K hK => ?_ | refine Qj ?_ | refine Qn ?_ | refine Qb ?_)) | ((with_reducible refine hK _ ?_); clear hK) | (refine Qg rfl ?_; simp only [↓reduceIte, QpQ]))
     simp -implicitDefEqProofs only [Qe, ↓reduceIte, QA, QB, ti41, QD, Ql, Qr, QpW, seval]
     exact Qc (htake _ _) (.keep (T.Qo0 _ _)) ⟨by rw [e], rfl⟩
  | none =>
   rw [hmv] at hf e
   replace hf : QbU (.int .i64) (.int .i64 t.int) (imap es) = some none := hf
   by_cases h2 : t.kind = 2
   ·have b2 : (t.kind == 2) = true := by simpa using h2
    rw [if_neg (by omega), if_pos h2] at e
    refine Qh Tryz.func124 rfl Tryz.call124 Tryz.ntmps124 (congrArg Array.toList Tryz.results124) (by simp) ?_
    repeat (first | ((first | (with_reducible (first | refine Qa fun K E hK hE => ?_ | refine Qk fun K E hK hE => ?_ | refine FunW.ret (hc _) ?_))); simp -implicitDefEqProofs only [Qe, Qf, OpW, QK, aop, undef, AS.ev, Qv, AV.QoY, ↓reduceIte, Qm, QA, QB, QO, QH, aBin, Xo, Yf, ti3, zi3, ti29, ti41, QX, Q9, Xc, zi41, Qe9, QiL, QlF, b2, hEc, hm, ht, hf, seval]) | (with_reducible (first | refine Qd fun K hK => ?_ | refine Qj ?_ | refine Qn ?_ | refine Qb ?_)) | ((with_reducible refine hK _ ?_); clear hK) | (refine Qg rfl ?_; simp only [↓reduceIte, QpQ]))
    simp -implicitDefEqProofs only [Qe, ↓reduceIte, QA, QB, ti41, QD, Ql, Qr, QpW, seval]
    rw [T.Qo9]
    exact Qc (htake _ _) (.keep (T.Qo0 _ _)) ⟨by rw [e], rfl⟩
   ·have b2 : (t.kind == 2) = false := by simpa using h2
    have e' : t.ren m = t := by rw [e]; split <;> first | rfl | (rw [if_neg h2])
    refine Qh Tryz.func124 rfl Tryz.call124 Tryz.ntmps124 (congrArg Array.toList Tryz.results124) (by simp) ?_
    repeat (first | (((with_reducible refine Qa fun K E hK hE => ?_)); simp -implicitDefEqProofs only [Qe, Qf, OpW, aop, undef, AS.ev, Qv, AV.QoY, ↓reduceIte, Qm, QA, QB, QO, QH, aBin, Xo, Yf, ti3, zi3, ti41, QX, Q9, zi41, Qe9, QiL, b2, hm, ht, hf, seval]) | (with_reducible (first | refine Qd fun K hK => ?_ | refine Qj ?_ | refine Qn ?_ | refine Qb ?_)) | ((with_reducible refine hK _ ?_); clear hK) | (refine Qg rfl ?_; simp only [↓reduceIte, QpQ]))
    simp -implicitDefEqProofs only [Qe, ↓reduceIte, QA, QB, ti41, QD, Ql, Qr, QpW, seval]
    exact Qc (htake _ _) (.keep (T.Qo0 _ _)) ⟨by rw [e'], rfl⟩
theorem RenAt.keep {pr pe pm it : Nat} {es : List (Int × AV)} {h hx : AH} (H : RenAt pr pe pm it es h) (k : Keep h hx) : RenAt pr pe pm it es hx :=
 ⟨k _ _ H.r (by intros; nofun), k _ _ H.e (by intros; nofun), k _ _ H.m (by intros; nofun), k _ _ H.t (by intros; nofun)⟩
theorem QcK {P : Program} {N : Nat} {fv : AV} {args : List AV} {s : AS} {d : Option Tmp} {K : AS → Prop} {r : AV} (H : ∀ hx, Keep s.h hx → FunW P fv args hx fun o h' => o = .ret r ∧ h' = hx) (k : K (AS.put N s d r)) : Qm9 P N fv args s d K := ⟨r, H, k⟩
def Ct.av (c : Ct) : AV := .agg [.sl 4 (avs c.vals) none, .sl 2 (vs G.atom c.store) none]
theorem Ct.cells (c : Ct) : c.av.cells = [.sl 4 (avs c.vals) none, .sl 2 (vs G.atom c.store) none] := rfl
theorem Ct.isAgg (c : Ct) : c.av.isAgg = true := rfl
def G.ren (m : Int → Option Int) (g : G) : G := ⟨0, g.name, rens m g.args⟩
def ansB (m : Int → Option Int) (c : Ct) (sv : AV) : AB := .cells 32 3 [.agg [.v (.bool false), .sl 4 (avs (rens m c.vals)) none, sv]]
def Qnl (m : Int → Option Int) (c : Ct) (n k : Nat) (sv : AV) (M : AH) : Prop :=
 (k = 0 ∧ sv = .sl 2 [] (some (n + 6))) ∨ (0 < k ∧ ∃ M', M = M' ++ [.cells 45 2 (vs G.atom ((c.store.take k).map (G.ren m)))] ∧ sv = .arr (n + (M'.length + 7)) 0 k)
theorem QgM {it : Nat} {es : List (Int × AV)} {m : Int → Option Int} (hes : ∀ v, QaO v es = (m v).map fun x => AV.i x) (c : Ct) (hv : ndsL c.vals ≤ 1000000) (hs : gsN c.store ≤ 1000000) (hk12 : c.store.length ≤ 12)
  (hn : ∀ g ∈ c.store.map (G.ren m), ndsL g.args ≤ 1000000) (h : AH) (ht : h[it]? = some (.map (imap es))) :
  Xf Tryz.prog 79 [c.av, .mp it] h fun o h' => o = .ret (An.mk false (rens m c.vals) (YA cmpG (c.store.map (G.ren m)))).av ∧ h' = h := by
 have hsl := Zr c.store
 have hR : ∀ M : AH, RenAt (h.length + 3) (h.length + 4) (h.length + 1) it es (h ++ ([.cells 76 2 [c.av], .cells 115 1 [.mp it], .cells 32 3 [.agg [.v (.bool false), .v (.slice none 0 0), .v (.slice none 0 0)]], .cells 158 1 [.fn (.func 124) [] [.ptr (h.length + 1) 0 0, .ptr (h.length + 4) 0 0]], .cells 154 1 [.fn (.func 123) [] [.ptr (h.length + 3) 0 0]]] ++ M)) := fun M =>
  ⟨by rw [hget]; rfl, by rw [hget]; rfl, by rw [hget]; rfl, hext ht _⟩
 have hcF : ∀ (l : List T), ndsL l ≤ 1000000 → ∀ H, RenAt (h.length + 3) (h.length + 4) (h.length + 1) it es H → FunW Tryz.prog (.fn (.func 123) [] [.ptr (h.length + 3) 0 0]) [.sl 4 (avs l) none] H fun o h' => o = .ret (.sl 4 (avs (rens m l)) none) ∧ h' = H := fun l hl H hH =>
  FunW.fn (Qil 1000000 (Nat.le_refl _) (fun t ht h H => QkK hes 1000000 (Nat.le_refl _) t ht h H) l hl H hH)
 have hR' : ∀ T : AH, RenAt (h.length + 3) (h.length + 4) (h.length + 1) it es (h ++ AB.cells 76 2 [c.av] :: AB.cells 115 1 [.mp it] :: AB.cells 32 3 [.agg [.v (.bool false), .v (.slice none 0 0), .v (.slice none 0 0)]] :: AB.cells 158 1 [.fn (.func 124) [] [.ptr (h.length + 1) 0 0, .ptr (h.length + 4) 0 0]] :: AB.cells 154 1 [.fn (.func 123) [] [.ptr (h.length + 3) 0 0]] :: T) := fun T => hR T
 have c0 := hcF c.vals hv (h ++ [.cells 76 2 [c.av], .cells 115 1 [.mp it], .cells 32 3 [.agg [.v (.bool false), .v (.slice none 0 0), .v (.slice none 0 0)]], .cells 158 1 [.fn (.func 124) [] [.ptr (h.length + 1) 0 0, .ptr (h.length + 4) 0 0]], .cells 154 1 [.fn (.func 123) [] [.ptr (h.length + 3) 0 0]]]) (by have := hR []; rwa [List.append_nil] at this)
 refine Qh Tryz.func79 rfl Tryz.call79 Tryz.ntmps79 (congrArg Array.toList Tryz.results79) (by simp) ?_
 repeat (first | ((first | (with_reducible (first | refine Qa fun K E hK hE => ?_ | refine FunW.ret c0 ?_))); simp -implicitDefEqProofs only [Qe, Qf, OpW, QK, aop, undef, AS.ev, Qv, AV.QoY, ↓reduceIte, Qm, QA, QB, QO, QH, XA, XV, aLen, goInt, ti29, ti30, un30, ti32, zi32, sp32, Qls, Qly, QlF, QoX, Qox, QoK, Ct.cells, QR, seval]) | (with_reducible (first | refine Qd fun K hK => ?_ | refine Qi ?_)) | ((with_reducible refine hK _ ?_); clear hK))
 refine ZF (h.length + 5) 32 3 2 .dead (.inl rfl) [.agg [.v (.bool false), .sl 4 (avs (rens m c.vals)) none, .v (.slice none 0 0)]] [.agg [.v (.bool false), .sl 4 (avs (rens m c.vals)) none, .sl 2 [] (some (h.length + 6))]] 2 (by rw [hget]; rfl) rfl (by simp [flat, AV.cells]) (by simp [AV.cells]) ?_
 obtain ⟨I, hI⟩ : ∃ I : Nat → AS → Prop, I = fun m' s => ∃ (k : Nat) (sv : AV) (M : AH), m' = c.store.length - k ∧ k ≤ c.store.length ∧ Qnl m c h.length k sv M ∧ s.tm 6 = .ptr (h.length + 4) 0 0 ∧ s.tm 7 = .ptr (h.length + 5) 0 0 ∧ s.tm 4 = .ptr (h.length + 2) 0 0 ∧ s.tm 18 = .sl 2 (vs G.atom c.store) none ∧ s.tm 19 = .i c.store.length ∧ s.tm 20 = .i k ∧
   s.h = h ++ ([.cells 76 2 [c.av], .cells 115 1 [.mp it], .cells 32 3 [.agg [.v (.bool false), .v (.slice none 0 0), .v (.slice none 0 0)]], .cells 158 1 [.fn (.func 124) [] [.ptr (h.length + 1) 0 0, .ptr (h.length + 4) 0 0]], .cells 154 1 [.fn (.func 123) [] [.ptr (h.length + 3) 0 0]], ansB m c sv, .dead] ++ M) := ⟨_, rfl⟩; refine QI I ?_ (m := c.store.length) ?_
 ·intro m' s hs; rw [hI] at hs; obtain ⟨tm, hp⟩ := s; dsimp only at hs; obtain ⟨k, sv, M, rfl, hk, hst, t6, t7, t4, t18, t19, t20, rfl⟩ := hs
  by_cases hlt : k < c.store.length
  ·have hga : ndsL (c.store[k]).args ≤ 1000000 := Nat.le_trans (Qa3 hlt) hs
   have hts : (c.store.take (k + 1)).map (G.ren m) = (c.store.take k).map (G.ren m) ++ [(c.store[k]).ren m] := by rw [List.take_succ_eq_append_getElem hlt, List.map_append]; rfl
   rcases hst with ⟨rfl, rfl⟩ | ⟨hkp, M', rfl, rfl⟩
   ·have hltI : (0 : Int) < (c.store.length : Int) := by omega
    have h1m : 1 ≤ maxLen := by simp only [maxLen]; omega
    repeat (first | ((first | (with_reducible (first | refine Qa fun K E hK hE => ?_ | refine Qk fun K E hK hE => ?_ | refine QcK (fun hx hk => hcF _ hga hx ((hR' _).keep hk)) ?_)) | (refine QG (id := 8) [(0, 0), (1, 0), (2, 0), (3, 0), (4, 0), (5, 0), (6, 0), (7, 0), (8, 0), (9, 0), (10, 4), (11, 0), (12, 2)] mixed (by kernel_rfl) fun K hK => ?_)); simp -implicitDefEqProofs only [Qe, Qf, OpW, aop, undef, AS.ev, AV.QoY, ↓reduceIte, Qm, QA, QB, QO, QH, Qt, aBin, XA, XV, QM, Xr, XS, ti9, ti29, ti30, ei30, ai30, Zg, ti45, YQ, YK, zi45, sp45, QlF, Qqz, h1m, hltI, ansB, t6, t7, t18, t19, t20, QR, XR G.atom hlt, QT, Xa, seval]) | (with_reducible (first | refine Qd fun K hK => ?_ | refine Qi ?_ | refine Qn ?_ | refine Qb ?_ | refine Qo ?_)) | ((with_reducible refine hK _ ?_); clear hK) | (refine Qg rfl ?_; simp only [↓reduceIte]))
    refine QV.mk (m' := c.store.length - (0 + 1)) (by omega) ?_
    rw [hI]
    refine ⟨0 + 1, .arr (h.length + ((M ++ [AB.cells 45 2 [(c.store[0]).atom]]).length + 7)) 0 (0 + 1), (M ++ [AB.cells 45 2 [(c.store[0]).atom]]) ++ [.cells 45 2 (vs G.atom ((c.store.take (0 + 1)).map (G.ren m)))], rfl, hlt, .inr ⟨by omega, _, rfl, rfl⟩, t6, t7, t4, t18, t19, ?_, ?_⟩
    ·simp only [upd, ↓reduceIte]
     rfl
    ·rw [hts]
     simp [ansB, vs, G.ren, G.atom]
   ·have hkb : k + 1 ≤ maxLen := by simp only [maxLen]; omega
    have hkc : (k + 1) * 40 ≤ 140737488355328 := by omega
    have hkl2 : (vs G.atom ((c.store.take k).map (G.ren m))).length = k := by rw [QR, List.length_map, List.length_take]; omega
    repeat (first | ((first | (with_reducible (first | refine Qa fun K E hK hE => ?_ | refine Qk fun K E hK hE => ?_ | refine QcK (fun hx hk => hcF _ hga hx ((hR' _).keep hk)) ?_)) | (refine QG (id := 8) [(0, 0), (1, 0), (2, 0), (3, 0), (4, 0), (5, 0), (6, 0), (7, 0), (8, 0), (9, 0), (10, 4), (11, 0), (12, 2)] mixed (by kernel_rfl) fun K hK => ?_)); simp -implicitDefEqProofs only [Qe, Qf, OpW, aop, undef, AS.ev, AV.QoY, ↓reduceIte, Qm, QA, QB, QO, QH, Qt, aBin, XA, XV, QM, Xr, XS, ti9, ti29, ti30, ei30, ai30, Zg, ti45, YQ, YK, zi45, sp45, QlF, aopR, Qbf, ansB, t6, t7, t18, t19, t20, hlt, QR, XR G.atom hlt, QT, Xa, hkl2, hkb, hkc, seval]) | (with_reducible (first | refine Qd fun K hK => ?_ | refine Qi ?_ | refine Qn ?_ | refine Qb ?_ | refine Qo ?_)) | ((with_reducible refine hK _ ?_); clear hK) | (refine Qg rfl ?_; simp only [↓reduceIte]))
    refine QV.mk (m' := c.store.length - (k + 1)) (by omega) ?_
    rw [hI]
    refine ⟨k + 1, .arr (h.length + ((M' ++ [AB.dead] ++ [AB.cells 45 2 [(c.store[k]).atom]]).length + 7)) 0 (k + 1), (M' ++ [AB.dead] ++ [AB.cells 45 2 [(c.store[k]).atom]]) ++ [.cells 45 2 (vs G.atom ((c.store.take (k + 1)).map (G.ren m)))], rfl, hlt, .inr ⟨by omega, _, rfl, rfl⟩, t6, t7, t4, t18, t19, ?_, ?_⟩
    ·simp only [upd, ↓reduceIte]
     rw [QP (by omega)]
    ·rw [hts]
     simp [ansB, vs, G.ren, G.atom]
  ·have hkl : k = c.store.length := by omega
   subst hkl
   have hfin : ∀ (own : AH) (sv : AV), Frz (h ++ own) h.length sv (.sl 2 (vs G.atom (YA cmpG (c.store.map (G.ren m)))) none) → Frz (h ++ own) h.length (.agg [.v (.bool false), .sl 4 (avs (rens m c.vals)) none, sv]) (An.mk false (rens m c.vals) (YA cmpG (c.store.map (G.ren m)))).av := fun own sv hf =>
    .agg rfl (Xe (.keep (.v _)) (Xe (.keep (X0 _ _)) (X3 hf)))
   rcases hst with ⟨h0, rfl⟩ | ⟨hkp, M', rfl, rfl⟩
   ·have hs0 : c.store = [] := List.length_eq_zero_iff.1 h0
    have cs : ∀ hx, Xf Tryz.prog 125 [.sl 2 [] (some (h.length + 6)), .fn (.func 52) [] []] hx fun o h' => o = .ret (.tup []) ∧ h' = hx := fun hx =>
     Qaq (.cons (.sl rfl (by simp) .nil) (.cons (.refl _) .nil)) (Qmk hx)
    repeat (first | ((first | (with_reducible (first | refine Qa fun K E hK hE => ?_ | refine FunW.ret (FunW.call (cs _)) ?_))); simp -implicitDefEqProofs only [Qe, Qf, OpW, QK, aop, undef, AS.ev, AV.QoY, ↓reduceIte, Qm, QA, QB, QO, QH, aBin, ti30, ti32, Zg, ansB, t7, t4, t19, t20, hlt, seval]) | (with_reducible (first | refine Qd fun K hK => ?_ | refine Qj ?_ | refine QC ?_ | refine Qb ?_ | refine Qw ?_ | refine Qy ?_)) | ((with_reducible refine hK _ ?_); clear hK) | (clear hK; (with_reducible refine hK _ ?_); clear hK) | (refine Qg rfl ?_; simp only [↓reduceIte, QpQ]))
    simp -implicitDefEqProofs only [Qe, ↓reduceIte, QA, QB, ti32, t4, QD, Ql, Qr, QpW, seval]
    exact Qc (htake _ _) (hfin _ _ (by rw [hs0]; exact Frz.tok (s := 2) (xs := []) (by simp [flat]))) ⟨rfl, rfl⟩
   ·have hml : (c.store.map (G.ren m)).length = c.store.length := List.length_map _
    rw [List.take_length]
    have cs : ∀ hx : AH, hx[h.length + (M'.length + 7)]? = some (.cells 45 2 (vs G.atom (c.store.map (G.ren m)))) → Xf Tryz.prog 125 [.arr (h.length + (M'.length + 7)) 0 c.store.length, .fn (.func 52) [] []] hx fun o h' => o = .ret (.tup []) ∧ h' = hx.set (h.length + (M'.length + 7)) (.cells 45 2 (vs G.atom (YA cmpG (c.store.map (G.ren m))))) := fun hx hg => by
     have := Qk9 (c.store.map (G.ren m)) (by omega) hn hx _ (QF hg)
     rwa [hml, Qfl hg] at this
    repeat (first | (((with_reducible refine Qa fun K E hK hE => ?_)); simp -implicitDefEqProofs only [Qe, Qf, OpW, aop, AS.ev, ↓reduceIte, Qm, QA, QB, aBin, ti30, Zg, ansB, t7, t19, t20, hlt, seval]) | (with_reducible (first | refine Qd fun K hK => ?_ | refine QC ?_ | refine Qb ?_ | refine Qw ?_ | refine Qy ?_)) | ((with_reducible refine hK _ ?_); clear hK) | (clear hK; (with_reducible refine hK _ ?_); clear hK) | (refine Qg rfl ?_; simp only [↓reduceIte, QpQ]))
    refine FunW.ret (FunW.call (cs _ (by rw [hget]; simp))) ?_
    simp -implicitDefEqProofs only [Qe, QK, Nat.reduceLT]
    repeat (first | (((with_reducible refine Qa fun K E hK hE => ?_)); simp -implicitDefEqProofs only [Qe, Qf, OpW, aop, undef, AS.ev, AV.QoY, ↓reduceIte, QA, QB, QO, QH, ti32, t7, t4, seval]) | (with_reducible refine Qj ?_) | ((with_reducible refine hK _ ?_); clear hK))
    simp -implicitDefEqProofs only [Qe, ↓reduceIte, QA, QB, ti32, t4, QD, Ql, Qr, QpW, seval]
    refine Qc (htake _ _) (hfin _ _ ?_) ⟨rfl, rfl⟩
    have hx : ∀ hx : AH, hx[h.length + (M'.length + 7)]? = some (.cells 45 2 (vs G.atom (YA cmpG (c.store.map (G.ren m))))) → Frz hx h.length (.arr (h.length + (M'.length + 7)) 0 c.store.length) (.sl 2 (vs G.atom (YA cmpG (c.store.map (G.ren m)))) none) := fun hx hg => by
     have h1 := Frz.arr (m := h.length) (lo := 0) (len := c.store.length) (by omega) hg (by rw [QR, Qaa, hml, Nat.zero_add]; exact Nat.le_refl _) (QhV G.atom _ (ZH _) _)
     rw [List.drop_zero, List.take_of_length_le (by rw [QR, Qaa, hml]; exact Nat.le_refl _)] at h1
     exact h1
    exact hx _ (by rw [hget]; simp)
 ·rw [hI]
  refine ⟨0, _, [], by omega, Nat.zero_le _, .inl ⟨rfl, rfl⟩, rfl, rfl, rfl, rfl, by simp only [upd, ↓reduceIte, Nat.reduceEqDiff], rfl, ?_⟩
  simp [ansB]
def revK (D : List Int) (k : Nat) : List Int := (List.range D.length).map fun i => D.getD (if i < k ∨ D.length ≤ i + k then D.length - 1 - i else i) 0
theorem YC (D : List Int) (k : Nat) : (revK D k).length = D.length := by simp [revK]
theorem QaE {D : List Int} {k i : Nat} (h : i < D.length) : (revK D k)[i]? = some (D.getD (if i < k ∨ D.length ≤ i + k then D.length - 1 - i else i) 0) := by
 rw [revK, List.getElem?_map, List.getElem?_range h]; rfl
theorem QkP (D : List Int) : revK D 0 = D := by
 apply List.ext_getElem?
 intro i
 by_cases h : i < D.length
 ·rw [QaE h, if_neg (by omega), List.getD_eq_getElem?_getD, List.getElem?_eq_getElem h]; rfl
 ·rw [List.getElem?_eq_none (by rw [YC]; omega), List.getElem?_eq_none (by omega)]
theorem Qme {D : List Int} {k : Nat} (hk : D.length ≤ 2 * k + 1) : revK D k = D.reverse := by
 apply List.ext_getElem?
 intro i
 by_cases h : i < D.length
 ·rw [QaE h, List.getElem?_reverse h, List.getD_eq_getElem?_getD]
  by_cases hc : i < k ∨ D.length ≤ i + k
  ·rw [if_pos hc, List.getElem?_eq_getElem (by omega)]; rfl
  ·rw [if_neg hc]
   have e : i = D.length - 1 - i := by omega
   rw [← e, List.getElem?_eq_getElem h]; rfl
 ·rw [List.getElem?_eq_none (by rw [YC]; omega), List.getElem?_eq_none (by rw [List.length_reverse]; omega)]
theorem QjO {D : List Int} {k : Nat} (hk : k + 1 + k < D.length) : ((revK D k).set k (D.getD (D.length - 1 - k) 0)).set (D.length - 1 - k) (D.getD k 0) = revK D (k + 1) := by
 apply List.ext_getElem?
 intro i
 by_cases h : i < D.length
 ·rw [QaE h]
  by_cases h1 : D.length - 1 - k = i
  ·subst h1
   rw [List.getElem?_set_self (by rw [List.length_set, YC]; omega), if_pos (by omega)]
   have e : D.length - 1 - (D.length - 1 - k) = k := by omega
   rw [e]
  ·rw [List.getElem?_set_ne h1]
   by_cases h2 : k = i
   ·subst h2
    rw [List.getElem?_set_self (by rw [YC]; omega), if_pos (by omega)]
   ·rw [List.getElem?_set_ne h2, QaE h]
    by_cases hc : i < k ∨ D.length ≤ i + k
    ·rw [if_pos hc, if_pos (by omega)]
    ·rw [if_neg hc, if_neg (by omega)]
 ·rw [List.getElem?_eq_none (by rw [List.length_set, List.length_set, YC]; omega), List.getElem?_eq_none (by rw [YC]; omega)]
theorem Qhi (A D : List Int) (hb : D.length ≤ 1000) (hd : 0 < D.length) (h : AH) (id : Nat) (hid : id < h.length) :
  Xf Tryz.prog 122 [.arr id A.length D.length] (hs h id (.cells 3 1 (ints (A ++ D)))) fun o h' => o = .ret (.tup []) ∧ h' = hs h id (.cells 3 1 (ints (A ++ D.reverse))) := by
 have g1 := fun x => Qc6 hid x
 have g2 := fun x y => QfY hid x y
 have hw0 : IntKind.i64.wrap ((D.length : Int) - 1) = ((D.length - 1 : Nat) : Int) := by rw [Xp (by omega)]; omega
 refine Qh Tryz.func122 rfl Tryz.call122 Tryz.ntmps122 (congrArg Array.toList Tryz.results122) (by simp) ?_
 repeat (first | ((first | (with_reducible (first | refine Qa fun K E hK hE => ?_ | refine Qk fun K E hK hE => ?_)) | (refine Qu (id := 3) [(0, 0), (1, 0), (2, 1), (3, 1), (4, 0), (5, 0), (6, 0), (7, 0), (8, 0), (9, 0), (10, 0), (11, 0), (12, 0), (13, 2), (14, 0), (15, 2)] mixed (by kernel_rfl) fun K hK => ?_) | (refine QG (id := 3) [(0, 0), (1, 0), (2, 1), (3, 1), (4, 0), (5, 0), (6, 0), (7, 0), (8, 0), (9, 0), (10, 0), (11, 0), (12, 0), (13, 2), (14, 0), (15, 2)] mixed (by kernel_rfl) fun K hK => ?_)); simp -implicitDefEqProofs only [Qe, Qf, OpW, aop, undef, AS.ev, Qv, ↓reduceIte, aBin, aLen, goInt, un49, g1, hw0, seval]) | (with_reducible (first | refine Qd fun K hK => ?_ | refine Qi ?_ | refine Qj ?_ | refine Q0 ?_ | refine Q1 ?_ | refine Qn ?_ | refine QC ?_ | refine Qb ?_ | refine Qq ?_ | refine Qw ?_ | refine Qo ?_ | refine Qs ?_ | refine Qy ?_ | refine QU rfl ?_)) | (with_reducible (first | refine hK _ ?_ | (clear hK; refine hK _ ?_) | (clear hK; clear hK; refine hK _ ?_) | (clear hK; clear hK; clear hK; refine hK _ ?_)); clear hK) | (refine Qg rfl ?_; simp only [↓reduceIte, QpQ]) | (intro (b : Bool); cases b))
 obtain ⟨I, hI⟩ : ∃ I : Nat → AS → Prop, I = fun m' s => ∃ k : Nat, m' = D.length - k ∧ 2 * k ≤ D.length ∧ k < D.length ∧ s.tm 0 = .arr id A.length D.length ∧ s.tm 2 = .i k ∧ s.tm 3 = .i (D.length - 1 - k : Nat) ∧ s.h = hs h id (.cells 3 1 (ints (A ++ revK D k))) := ⟨_, rfl⟩; refine QI I ?_ (m := D.length) ?_
 ·intro m' s hs; rw [hI] at hs; obtain ⟨tm, hp⟩ := s; dsimp only at hs; obtain ⟨k, rfl, hk, hkd, t0, t2, t3, rfl⟩ := hs
  by_cases hlt : k < D.length - 1 - k
  ·have hk1 : k + 1 + k < D.length := by omega
   have hj : D.length - 1 - k < D.length := by omega
   have gk : (ints (A ++ revK D k))[A.length + k]? = some (.i (D.getD k 0)) := by
    rw [XI, List.getElem?_append_right (by rw [Xb]; omega), Xb, Nat.add_sub_cancel_left]
    simp only [ints, List.getElem?_map]
    rw [QaE hkd, if_neg (by omega)]; rfl
   have gj : (ints (A ++ revK D k))[A.length + (D.length - 1 - k)]? = some (.i (D.getD (D.length - 1 - k) 0)) := by
    rw [XI, List.getElem?_append_right (by rw [Xb]; omega), Xb, Nat.add_sub_cancel_left]
    simp only [ints, List.getElem?_map]
    rw [QaE hj, if_neg (by omega)]; rfl
   have gj2 : ((ints (A ++ revK D k)).set (A.length + k) (.i (D.getD (D.length - 1 - k) 0)))[A.length + (D.length - 1 - k)]? = some (.i (D.getD (D.length - 1 - k) 0)) := by
    rw [List.getElem?_set_ne (by omega)]; exact gj
   have hset2 : (((ints (A ++ revK D k)).set (A.length + k) (.i (D.getD (D.length - 1 - k) 0))).set (A.length + (D.length - 1 - k)) (.i (D.getD k 0))) = ints (A ++ revK D (k + 1)) := by
    rw [← QjO hk1, XI, XI]
    rw [List.set_append_right _ _ (by rw [Xb]; omega), List.set_append_right _ _ (by rw [Xb]; omega), Xb, Nat.add_sub_cancel_left, Nat.add_sub_cancel_left]
    simp only [ints, List.map_set]
   have hw1 : IntKind.i64.wrap (((D.length - 1 - k : Nat) : Int) - 1) = ((D.length - 1 - (k + 1) : Nat) : Int) := by rw [Xp (by omega)]; omega
   have hw2 : IntKind.i64.wrap ((k : Int) + 1) = ((k + 1 : Nat) : Int) := QP (by omega)
   repeat (first | ((first | (with_reducible (first | refine Qa fun K E hK hE => ?_ | refine Qk fun K E hK hE => ?_)) | (refine Qu (id := 3) [(0, 0), (1, 0), (2, 1), (3, 1), (4, 0), (5, 0), (6, 0), (7, 0), (8, 0), (9, 0), (10, 0), (11, 0), (12, 0), (13, 2), (14, 0), (15, 2)] mixed (by kernel_rfl) fun K hK => ?_) | (refine QG (id := 3) [(0, 0), (1, 0), (2, 1), (3, 1), (4, 0), (5, 0), (6, 0), (7, 0), (8, 0), (9, 0), (10, 0), (11, 0), (12, 0), (13, 2), (14, 0), (15, 2)] mixed (by kernel_rfl) fun K hK => ?_)); simp -implicitDefEqProofs only [Qe, Qf, OpW, aop, undef, AS.ev, AV.QoY, ↓reduceIte, QA, QB, QO, QH, Qt, aBin, ti3, ei49, t0, t2, t3, hlt, hkd, hj, gk, gj, gj2, g1, g2, hset2, hw1, hw2, seval]) | (with_reducible (first | refine Qd fun K hK => ?_ | refine Qi ?_ | refine Qj ?_ | refine Q0 ?_ | refine Q1 ?_ | refine Qn ?_ | refine QC ?_ | refine Qb ?_ | refine Qq ?_ | refine Qw ?_ | refine Qo ?_ | refine Qs ?_ | refine Qy ?_ | refine QU rfl ?_)) | (with_reducible (first | refine hK _ ?_ | (clear hK; refine hK _ ?_) | (clear hK; clear hK; refine hK _ ?_) | (clear hK; clear hK; clear hK; refine hK _ ?_)); clear hK) | (refine Qg rfl ?_; simp only [↓reduceIte]) | (intro (b : Bool); cases b))
   refine QV.mk (m' := D.length - (k + 1)) (by omega) ?_
   rw [hI]
   refine ⟨k + 1, rfl, by omega, by omega, t0, rfl, rfl, rfl⟩
  ·rw [Qme (by omega)]
   repeat (first | ((first | (with_reducible (first | refine Qa fun K E hK hE => ?_ | refine Qk fun K E hK hE => ?_)) | (refine Qu (id := 3) [(0, 0), (1, 0), (2, 1), (3, 1), (4, 0), (5, 0), (6, 0), (7, 0), (8, 0), (9, 0), (10, 0), (11, 0), (12, 0), (13, 2), (14, 0), (15, 2)] mixed (by kernel_rfl) fun K hK => ?_) | (refine QG (id := 3) [(0, 0), (1, 0), (2, 1), (3, 1), (4, 0), (5, 0), (6, 0), (7, 0), (8, 0), (9, 0), (10, 0), (11, 0), (12, 0), (13, 2), (14, 0), (15, 2)] mixed (by kernel_rfl) fun K hK => ?_)); simp -implicitDefEqProofs only [Qe, Qf, OpW, aop, AS.ev, ↓reduceIte, aBin, t2, t3, hlt, seval]) | (with_reducible (first | refine Qd fun K hK => ?_ | refine Qi ?_ | refine Qj ?_ | refine Q0 ?_ | refine Q1 ?_ | refine Qn ?_ | refine QC ?_ | refine Qb ?_ | refine Qq ?_ | refine Qw ?_ | refine Qo ?_ | refine Qs ?_ | refine Qy ?_ | refine QU rfl ?_)) | (with_reducible (first | refine hK _ ?_ | (clear hK; refine hK _ ?_) | (clear hK; clear hK; refine hK _ ?_) | (clear hK; clear hK; clear hK; refine hK _ ?_)); clear hK) | (refine Qg rfl ?_; simp only [↓reduceIte, QpQ]) | (intro (b : Bool); cases b))
   exact ⟨.tup [], rfl, .inr ⟨rfl, rfl⟩⟩
 ·rw [hI]
  exact ⟨0, rfl, by omega, hd, rfl, rfl, rfl, by rw [QkP]⟩
theorem Qh0 {P : Program} {fv : AV} {args : List AV} {h : AH} {Q : AOut → AH → Prop} (H : FunW P fv args h fun o h' => ∃ r, o = .ret r ∧ Leaves h h' r fun r h'' => Q (.ret r) h'') : FunW P fv args h Q := by
 intro F n c v vals hF hs hh hv hvs o a next Qx h1 h2
 refine H F n c v vals hF hs hh hv hvs o a next Qx (fun r c' x hQ hev hst hr => ?_) (fun r c' x hQ hev hst hr => ?_)
 ·obtain ⟨r', e, hl⟩ := hQ
  cases e
  subst hh
  obtain ⟨c2, r2, q1, q2, q3, q4, q5⟩ := Yp hs hst hev hr hl
  rw [← q4]
  exact h1 r2 c2 x q1 q2 q3 q5
 ·obtain ⟨r', e, _⟩ := hQ
  cases e
theorem Qb7 (n : Nat) : Pure Tryz.prog 78 [.i n] (.fn (.func 121) [] [.pin 1 [.i n] 0 0]) := by
  intro h
  refine Qh Tryz.func78 rfl Tryz.call78 Tryz.ntmps78 (congrArg Array.toList Tryz.results78) (by simp) ?_
  repeat (first | (((with_reducible refine Qa fun K E hK hE => ?_)); simp -implicitDefEqProofs only [Qe, Qf, OpW, aop, undef, AS.ev, Qv, AV.QoY, ↓reduceIte, seval]) | (with_reducible refine Qj ?_) | ((with_reducible refine hK _ ?_); clear hK))
  simp only [QD, Ql, Qr, upd, ↓reduceIte, QpS, QpW]
  refine Qc (r' := .fn (.func 121) [] [.pin 1 [.i n] 0 0]) (htake _ _) (.fn rfl rfl Qiz (X3 (.ptr (Nat.le_refl _) (Qfz _ _) ?_))) ⟨rfl, rfl⟩
  intro a ha
  simp only [flat, AV.cells, List.flatMap_cons, List.flatMap_nil, Qqf, List.mem_singleton] at ha
  subst ha
  exact .v _
def QbM : Nat → List Int → Bool
  | 0, l => (QdW l).isNone
  | k + 1, l => match QdW l with
    | some m => QbM k m
    | none => true
theorem QoT : QbM 720 (nums 0) = true := by decide +kernel
theorem QoE : QbM 720 (nums 1) = true := by decide +kernel
theorem QoF : QbM 720 (nums 2) = true := by decide +kernel
theorem QoQ : QbM 720 (nums 3) = true := by decide +kernel
theorem QoH : QbM 720 (nums 4) = true := by decide +kernel
theorem QoO : QbM 720 (nums 5) = true := by decide +kernel
theorem QoS : QbM 720 (nums 6) = true := by decide +kernel
theorem Ql8 {n : Nat} (h : n ≤ 6) : QbM 720 (nums n) = true := by
  match n, h with
  | 0, _ => exact QoT
  | 1, _ => exact QoE
  | 2, _ => exact QoF
  | 3, _ => exact QoQ
  | 4, _ => exact QoH
  | 5, _ => exact QoO
  | 6, _ => exact QoS
theorem Qdk (k : Nat) (l : List Int) : l ∈ XL k l := by cases k <;> simp [XL]
theorem QiU {n : Nat} (h : n ≤ 6) {σ : List Int} (hs : σ ∈ XL 720 (nums n)) : σ.Perm (nums n) := by rw [Qdm h] at hs; exact QaM.1 hs
def OrdAt (n : Nat) (σ : List Int) (a : AV) (h : AH) : Prop := n = 0 ∨ ∃ id, a = .arr id 0 n ∧ h[id]? = some (.cells 3 1 (ints σ))
structure VisP (fv : AV) {S : Type} (H : S → AH) (g : S → List Int → S) (J : S → Prop) (n m : Nat) : Prop where
  len : ∀ s, (H s).length = m
  vis : ∀ s σ a L, J s → σ.Perm (nums n) → OrdAt n σ a (H s ++ L) → FunW Tryz.prog fv [a] (H s ++ L) fun o h' => o = .ret (.b true) ∧ h' = H (g s σ) ++ L
  step : ∀ s σ, J s → σ.Perm (nums n) → J (g s σ)
  old : ∀ s s' (i : Nat) b, (H s')[i]? = some b → (H s)[i]? = some b ∨ b.Below m
theorem QkC (h : AH) : Qga Tryz.prog 49 (.i 0) (.i 0) h = some (.sl 1 [] (some h.length), h ++ [.grow 3 1 0]) := by
  have hE : Q5 Tryz.prog 49 = some (3, 1) := by kernel_rfl
  have hz : ((Tryz.prog).info? 3).bind (·.zero) = some (.int .i64 0) := by kernel_rfl
  have hbs : ((Tryz.prog).info? 3).map (fun i => (i.bytes, i.size)) = some (8, 1) := by kernel_rfl
  cases hi : (Tryz.prog).info? 3 with
  | none => rw [hi] at hz; cases hz
  | some i =>
    rw [hi] at hz hbs
    replace hz : i.zero = some (.int .i64 0) := hz
    simp only [QpO, QpS, Prod.mk.injEq] at hbs
    obtain ⟨b1, b2⟩ := hbs
    simp only [Qga, hE, hi, hz]
    rw [if_pos ⟨by omega, by rw [b1]; omega, by simp only [maxLen]; omega, b2⟩]
theorem Qjo {fv : AV} {S : Type} {H : S → AH} {g : S → List Int → S} {J : S → Prop} {m : Nat} (V : VisP fv H g J 0 m) (u : S) (L : AH) (hJ : J u) :
    Xf Tryz.prog 121 [fv, .pin 1 [.i (0 : Nat)] 0 0] (H u ++ L) fun o h' => o = .ret (.tup []) ∧ h' = H ((XL 720 (nums 0)).foldl g u) ++ L := by
  have hm := V.len
  have gk : ∀ (u : S) (L : AH) (k : Nat), (H u ++ L)[m + k]? = L[k]? := fun u L k => by rw [← hm u]; exact hget _ _ _
  have sk : ∀ (u : S) (L : AH) (k : Nat) (b : AB), (H u ++ L).set (m + k) b = H u ++ L.set k b := fun u L k b => by rw [← hm u]; exact hset _ _ _ _
  have hv : ∀ (a : AV) (M : AH), FunW Tryz.prog fv [a] (H u ++ M) fun o h' => o = .ret (.b true) ∧ h' = H (g u []) ++ M := fun a M => V.vis u [] a M hJ (List.Perm.refl _) (.inl rfl)
  have e : (XL 720 (nums 0)).foldl g u = g u [] := by rw [Qdm (by omega)]; rfl
  have h00 : ¬ ((0 : Int) < 0) := by decide
  have h2 : IntKind.i64.wrap (-2) = -2 := by decide
  have hm1 : ¬ ((-2 : Int) ≥ 0) := by decide
  have hm2 : ((-2 : Int) < 0) := by decide
  rw [e]
  refine Qh Tryz.func121 rfl Tryz.call121 Tryz.ntmps121 (congrArg Array.toList Tryz.results121) (by simp) ?_
  have mk := QkC (H u ++ L)
  repeat (first | (((with_reducible refine Qa fun K E hK hE => ?_)); simp -implicitDefEqProofs only [Qe, Qf, OpW, aop, undef, AS.ev, Qv, ↓reduceIte, Nat.reduceLT, QA, QB, aLen, goInt, ti3, un49, hm, mk]) | (with_reducible (first | refine Qd fun K hK => ?_ | refine Qi ?_)) | ((with_reducible refine hK _ ?_); clear hK))
  obtain ⟨I, hI⟩ : ∃ I : Nat → AS → Prop, I = fun m' s => m' = 0 ∧ s.tm 0 = fv ∧ s.tm 1 = .pin 1 [.i (0 : Nat)] 0 0 ∧ s.tm 3 = .sl 1 [] (some (m + L.length)) ∧ s.tm 10 = .i 0 ∧ s.tm 11 = .i 0 ∧ s.h = H u ++ (L ++ [.grow 3 1 0]) := ⟨_, rfl⟩; refine QI I ?_ (m := 0) ?_
  · intro m' s hs; rw [hI] at hs; obtain ⟨tm, hp⟩ := s; dsimp only at hs; obtain ⟨rfl, t0, t1, t3, t10, t11, rfl⟩ := hs
    repeat (first | (((with_reducible refine Qa fun K E hK hE => ?_)); simp -implicitDefEqProofs only [Qe, Qf, OpW, aop, AS.ev, Nat.reduceLT, aBin, t10, t11, h00]) | (with_reducible (first | refine Qd fun K hK => ?_ | refine Qi ?_ | refine QC ?_ | refine Qb ?_ | refine Qw ?_ | refine Qy ?_)) | ((with_reducible refine hK _ ?_); clear hK) | (clear hK; (with_reducible refine hK _ ?_); clear hK) | (refine Qg rfl ?_; simp only [↓reduceIte, QpQ]))
    obtain ⟨I, hI⟩ : ∃ I : Nat → AS → Prop, I = fun m' s => m' = 0 ∧ s.tm 0 = fv ∧ s.tm 1 = .pin 1 [.i (0 : Nat)] 0 0 ∧ s.tm 3 = .sl 1 [] (some (m + L.length)) ∧ s.h = H u ++ (L ++ [.grow 3 1 0]) := ⟨_, rfl⟩; refine QI I ?_ (m := 0) ?_
    · intro m' s hs; rw [hI] at hs; obtain ⟨tm, hp⟩ := s; dsimp only at hs; obtain ⟨rfl, t0, t1, t3, rfl⟩ := hs
      repeat (first | ((first | (with_reducible (first | refine Qa fun K E hK hE => ?_ | refine FunW.ret (hv _ _) ?_))); simp -implicitDefEqProofs only [Qe, Qf, OpW, QK, aop, AS.ev, ↓reduceIte, QA, QB, aBin, ti3, t0, t1, t3, seval]) | (with_reducible (first | refine Qd fun K hK => ?_ | refine Qi ?_ | refine Qn ?_ | refine Qb ?_)) | ((with_reducible refine hK _ ?_); clear hK) | (refine Qg rfl ?_; simp only [↓reduceIte]))
      obtain ⟨I, hI⟩ : ∃ I : Nat → AS → Prop, I = fun m' s => m' = 0 ∧ s.tm 5 = .i (-2) ∧ s.h = H (g u []) ++ (L ++ [.grow 3 1 0]) := ⟨_, rfl⟩; refine QI I ?_ (m := 0) ?_
      · intro m' s hs; rw [hI] at hs; obtain ⟨tm, hp⟩ := s; dsimp only at hs; obtain ⟨rfl, t5, rfl⟩ := hs
        repeat (first | ((first | (with_reducible refine Qa fun K E hK hE => ?_) | (refine Qu (id := 8) [(0, 0), (1, 0), (2, 0), (3, 0), (4, 0), (5, 0), (6, 0), (7, 0), (8, 0), (9, 0), (10, 0), (11, 0), (12, 0), (13, 0)] mixed (by kernel_rfl) fun K hK => ?_)); simp -implicitDefEqProofs only [Qe, Qf, OpW, aop, undef, AS.ev, ↓reduceIte, aBin, t5, hm1, hm2, seval]) | (with_reducible (first | refine Qd fun K hK => ?_ | refine Qj ?_ | refine QC ?_ | refine Qb ?_ | refine Qq ?_ | refine Qw ?_ | refine Qs ?_ | refine Qy ?_)) | ((with_reducible refine hK _ ?_); clear hK) | (clear hK; (with_reducible refine hK _ ?_); clear hK) | (refine Qg rfl ?_; simp only [↓reduceIte, QpQ]))
        refine ⟨.tup [], rfl, ?_⟩
        exact X2 V.len V.old (.keep (.tup [] (by simp))) ⟨rfl, rfl⟩
      · rw [hI]
        exact ⟨rfl, rfl, rfl⟩
    · rw [hI]
      exact ⟨rfl, t0, t1, t3, rfl⟩
  · rw [hI]
    exact ⟨rfl, rfl, rfl, rfl, rfl, rfl, rfl⟩
theorem QmA {l : List Int} {x : Int} {k : Nat} (h : l.getD (k + 1) 0 < x) : above l x (k + 1) = above l x k := by rw [above, if_pos h]
theorem Qjp {l : List Int} {x : Int} {k : Nat} (h : ¬ l.getD (k + 1) 0 < x) : above l x (k + 1) = k + 1 := by rw [above, if_neg h]
theorem QiO {l : List Int} (h : pivot l (l.length - 1) < 0) : QdW l = none := by simp only [QdW]; rw [if_pos h]
theorem Qjv {l : List Int} {i : Nat} (h : pivot l (l.length - 1) = (i : Nat)) : QdW l = some
    ((((l.set i (l.getD (above l (l.getD i 0) (l.length - 1)) 0)).set (above l (l.getD i 0) (l.length - 1)) (l.getD i 0)).take (i + 1)) ++
     (((l.set i (l.getD (above l (l.getD i 0) (l.length - 1)) 0)).set (above l (l.getD i 0) (l.length - 1)) (l.getD i 0)).drop (i + 1)).reverse) := by
  simp only [QdW, h, Qqp]
  rw [if_neg (by omega)]
theorem Qj0 (n : Nat) (h0 : 0 < n) (h6 : n ≤ 6) (h : AH) : Qga Tryz.prog 49 (.i n) (.i n) h = none ∧ QeA Tryz.prog 49 (.i n) (.i n) h = some (.arr h.length 0 n, h ++ [.cells 3 1 (ints (List.replicate n 0))]) := by
  have hE : Q5 Tryz.prog 49 = some (3, 1) := by kernel_rfl
  have hz : ((Tryz.prog).info? 3).bind (·.zero) = some (.int .i64 0) := by kernel_rfl
  have hbs : ((Tryz.prog).info? 3).map (fun i => (i.bytes, i.size)) = some (8, 1) := by kernel_rfl
  constructor
  · obtain ⟨k, rfl⟩ : ∃ k, n = k + 1 := ⟨n - 1, by omega⟩
    unfold Qga
    split
    · rename_i q1 q2 q3 e1 e2
      simp only [AV.v.injEq, Value.int.injEq] at e1
      omega
    · rfl
  · cases hi : (Tryz.prog).info? 3 with
    | none => rw [hi] at hz; cases hz
    | some i =>
      rw [hi] at hz hbs
      replace hz : i.zero = some (.int .i64 0) := hz
      simp only [QpO, QpS, Prod.mk.injEq] at hbs
      obtain ⟨b1, b2⟩ := hbs
      simp only [QeA, hE, hi, hz]
      rw [if_pos ⟨by omega, trivial, by rw [b1]; omega, by simp only [maxLen]; omega, b2, trivial, rfl⟩]
      simp [ints]
theorem QgT (j : Nat) : nums (j + 1) = nums j ++ [(j : Int)] := by simp [nums, List.range_succ]
theorem Qh3 {fv : AV} {S : Type} {H : S → AH} {g : S → List Int → S} {J : S → Prop} {n m : Nat} (V : VisP fv H g J n m) (hn0 : 0 < n) (hn6 : n ≤ 6) (u : S) (L : AH) (hJ : J u) :
    Xf Tryz.prog 121 [fv, .pin 1 [.i n] 0 0] (H u ++ L) fun o h' => o = .ret (.tup []) ∧ h' = H ((XL 720 (nums n)).foldl g u) ++ L := by
  have hm := V.len
  have gi : ∀ (u : S) (X : AB) (M : AH), (H u ++ (L ++ X :: M))[m + L.length]? = some X := fun u X M => by rw [← hm u, hget, Qfz]; rfl
  have si : ∀ (u : S) (X Y : AB) (M : AH), (H u ++ (L ++ X :: M)).set (m + L.length) Y = H u ++ (L ++ Y :: M) := fun u X Y M => by
    rw [← hm u, hset, Qjx]; rfl
  have mk := Qj0 n hn0 hn6 (H u ++ L)
  have rc : ∀ (s : S) (A D : List Int), D.length ≤ 1000 → 0 < D.length → Xf Tryz.prog 122 [.arr (m + L.length) A.length D.length] (H s ++ (L ++ [.cells 3 1 (ints (A ++ D))])) fun o h' => o = .ret (.tup []) ∧ h' = H s ++ (L ++ [.cells 3 1 (ints (A ++ D.reverse))]) := fun s A D h1 h2 => by
    have := Qhi A D h1 h2 (H s ++ (L ++ [.cells 3 1 (ints (A ++ D))])) (m + L.length) (QF (gi s _ []))
    rwa [Qfl (gi s _ []), show hs (H s ++ (L ++ [.cells 3 1 (ints (A ++ D))])) (m + L.length) (.cells 3 1 (ints (A ++ D.reverse))) = H s ++ (L ++ [.cells 3 1 (ints (A ++ D.reverse))]) from si s _ _ []] at this
  have hn1 : IntKind.i64.wrap ((n : Int) - 1) = ((n - 1 : Nat) : Int) := by rw [Xp (by omega)]; omega
  have hn2 : IntKind.i64.wrap ((n : Int) - 2) = (n : Int) - 2 := Xp (by omega)
  refine Qh Tryz.func121 rfl Tryz.call121 Tryz.ntmps121 (congrArg Array.toList Tryz.results121) (by simp) ?_
  repeat (first | (((with_reducible refine Qa fun K E hK hE => ?_)); simp -implicitDefEqProofs only [Qe, Qf, OpW, aop, undef, AS.ev, Qv, ↓reduceIte, Nat.reduceLT, QA, QB, aLen, goInt, ti3, un49, mk.1, mk.2, hm, gi]) | (with_reducible (first | refine Qd fun K hK => ?_ | refine Qi ?_)) | ((with_reducible refine hK _ ?_); clear hK))
  obtain ⟨I, hI⟩ : ∃ I : Nat → AS → Prop, I = fun m' s => ∃ j : Nat, m' = n - j ∧ j ≤ n ∧ s.tm 0 = fv ∧ s.tm 1 = .pin 1 [.i n] 0 0 ∧ s.tm 3 = .arr (m + L.length) 0 n ∧ s.tm 10 = .i n ∧ s.tm 11 = .i j ∧ s.h = H u ++ (L ++ [.cells 3 1 (ints (nums j ++ List.replicate (n - j) 0))]) := ⟨_, rfl⟩; refine QI I ?_ (m := n) ?_
  · intro m' s hs; rw [hI] at hs; obtain ⟨tm, hp⟩ := s; dsimp only at hs; obtain ⟨j, rfl, hj, t0, t1, t3, t10, t11, rfl⟩ := hs
    by_cases hlt : j < n
    · have hg : (ints (nums j ++ List.replicate (n - j) 0))[j]? = some (.i 0) := by
        rw [XI, List.getElem?_append_right (by rw [Xb, nums_length]; omega), Xb, nums_length, Nat.sub_self]
        obtain ⟨k, hk⟩ : ∃ k, n - j = k + 1 := ⟨n - j - 1, by omega⟩
        rw [hk]; rfl
      have hst : (ints (nums j ++ List.replicate (n - j) 0)).set j (.i j) = ints (nums (j + 1) ++ List.replicate (n - (j + 1)) 0) := by
        obtain ⟨k, hk⟩ : ∃ k, n - j = k + 1 := ⟨n - j - 1, by omega⟩
        have hk2 : n - (j + 1) = k := by omega
        rw [hk, hk2, QgT, XI, List.set_append_right _ _ (by rw [Xb, nums_length]; omega), Xb, nums_length, Nat.sub_self, XI, XI]
        simp [ints, List.replicate_succ]
      repeat (first | ((first | (with_reducible (first | refine Qa fun K E hK hE => ?_ | refine Qk fun K E hK hE => ?_))); simp -implicitDefEqProofs only [Qe, Qf, OpW, aop, undef, AS.ev, AV.QoY, ↓reduceIte, QO, QH, Qt, aBin, ti3, ei49, t3, t10, t11, hlt, hg, hst, gi, si, seval]) | (with_reducible (first | refine Qd fun K hK => ?_ | refine Qi ?_ | refine Qn ?_ | refine Qb ?_ | refine Qo ?_)) | ((with_reducible refine hK _ ?_); clear hK) | (refine Qg rfl ?_; simp only [↓reduceIte]))
      refine QV.mk (m' := n - (j + 1)) (by omega) ?_
      rw [hI]
      refine ⟨j + 1, rfl, hlt, t0, t1, t3, t10, ?_, rfl⟩
      simp only [upd, ↓reduceIte]
      rw [QP (by omega)]
    · have hjn : j = n := by omega
      subst hjn
      rw [Nat.sub_self, List.replicate_zero, List.append_nil]
      repeat (first | (((with_reducible refine Qa fun K E hK hE => ?_)); simp -implicitDefEqProofs only [Qe, Qf, OpW, aop, AS.ev, Nat.reduceLT, aBin, t10, t11, hlt]) | (with_reducible (first | refine Qd fun K hK => ?_ | refine Qi ?_ | refine QC ?_ | refine Qb ?_ | refine Qw ?_ | refine Qy ?_)) | ((with_reducible refine hK _ ?_); clear hK) | (clear hK; (with_reducible refine hK _ ?_); clear hK) | (refine Qg rfl ?_; simp only [↓reduceIte, QpQ]))
      obtain ⟨I, hI⟩ : ∃ I : Nat → AS → Prop, I = fun m' s => ∃ (k : Nat) (σ : List Int) (v : S) (dn : List (List Int)), m' = k ∧ XL 720 (nums j) = dn ++ XL k σ ∧ v = dn.foldl g u ∧ J v ∧ QbM k σ = true ∧ s.tm 0 = fv ∧ s.tm 1 = .pin 1 [.i j] 0 0 ∧ s.tm 3 = .arr (m + L.length) 0 j ∧ s.h = H v ++ (L ++ [.cells 3 1 (ints σ)]) := ⟨_, rfl⟩; refine QI I ?_ (m := 720) ?_
      · have hO := hI
        intro m' s hs; rw [hI] at hs; obtain ⟨tm, hp⟩ := s; dsimp only at hs; obtain ⟨k, σ, v, dn, hmk, hdn, hv, hJv, hend, t0, t1, t3, rfl⟩ := hs
        have hσ : σ.Perm (nums j) := QiU hn6 (by rw [hdn]; exact List.mem_append_right _ (Qdk k σ))
        have hσl : σ.length = j := by rw [hσ.length_eq, nums_length]
        have hvis := V.vis v σ (.arr (m + L.length) 0 j) (L ++ [.cells 3 1 (ints σ)]) hJv hσ (.inr ⟨_, rfl, gi v _ []⟩)
        have hJ2 := V.step v σ hJv hσ
        have gσ : ∀ i : Nat, i < j → (ints σ)[i]? = some (.i (σ.getD i 0)) := fun i hi => by rw [XK (by omega), List.getD_eq_getElem?_getD, List.getElem?_eq_getElem (by omega)]; rfl
        have hPn : QdW σ = none → H ((XL 720 (nums j)).foldl g u) = H (g v σ) := fun hq => by
          have e : XL k σ = [σ] := by cases k with
            | zero => rfl
            | succ k => simp only [XL, hq]
          rw [hdn, e, List.foldl_append, ← hv]; rfl
        have hPs : ∀ τ, QdW σ = some τ → ∃ k', k' < k ∧ XL 720 (nums j) = (dn ++ [σ]) ++ XL k' τ ∧ QbM k' τ = true := fun τ hq => by
          cases k with
          | zero => simp [QbM, hq] at hend
          | succ k =>
            refine ⟨k, by omega, ?_, ?_⟩
            · rw [hdn]; simp only [XL, hq]; simp
            · simp only [QbM, hq] at hend; exact hend
        repeat (first | ((first | (with_reducible (first | refine Qa fun K E hK hE => ?_ | refine FunW.ret hvis ?_))); simp -implicitDefEqProofs only [Qe, Qf, OpW, QK, aop, AS.ev, ↓reduceIte, QA, QB, aBin, ti3, t0, t1, t3, hn2, seval]) | (with_reducible (first | refine Qd fun K hK => ?_ | refine Qi ?_ | refine Qn ?_ | refine Qb ?_)) | ((with_reducible refine hK _ ?_); clear hK) | (refine Qg rfl ?_; simp only [↓reduceIte]))
        obtain ⟨I, hI⟩ : ∃ I : Nat → AS → Prop, I = fun m' s => ∃ c : Nat, m' = c ∧ c ≤ j - 1 ∧ pivot σ (j - 1) = pivot σ c ∧ s.tm 0 = fv ∧ s.tm 1 = .pin 1 [.i j] 0 0 ∧ s.tm 3 = .arr (m + L.length) 0 j ∧ s.tm 5 = .i ((c : Int) - 1) ∧ s.h = H (g v σ) ++ (L ++ [.cells 3 1 (ints σ)]) := ⟨_, rfl⟩; refine QI I ?_ (m := j - 1) ?_
        · intro m' s hs; rw [hI] at hs; obtain ⟨tm, hp⟩ := s; dsimp only at hs; obtain ⟨c, hmc, hc, hpv, t0, t1, t3, t5, rfl⟩ := hs
          cases c with
          | zero =>
            have t5' : tm 5 = .i (-1) := by rw [t5]; rfl
            have hm1 : ¬ ((-1 : Int) ≥ 0) := by decide
            have hm2 : ((-1 : Int) < 0) := by decide
            have hnp : QdW σ = none := QiO (by rw [hσl, hpv]; exact (by decide : (-1 : Int) < 0))
            repeat (first | ((first | (with_reducible refine Qa fun K E hK hE => ?_) | (refine Qu (id := 8) [(0, 0), (1, 0), (2, 0), (3, 0), (4, 0), (5, 0), (6, 0), (7, 0), (8, 0), (9, 0), (10, 0), (11, 0), (12, 0), (13, 0)] mixed (by kernel_rfl) fun K hK => ?_)); simp -implicitDefEqProofs only [Qe, Qf, OpW, aop, undef, AS.ev, ↓reduceIte, aBin, t5', hm1, hm2, seval]) | (with_reducible (first | refine Qd fun K hK => ?_ | refine Qj ?_ | refine QC ?_ | refine Qb ?_ | refine Qq ?_ | refine Qw ?_ | refine Qs ?_ | refine Qy ?_)) | ((with_reducible refine hK _ ?_); clear hK) | (clear hK; (with_reducible refine hK _ ?_); clear hK) | (refine Qg rfl ?_; simp only [↓reduceIte, QpQ]))
            refine ⟨.tup [], rfl, ?_⟩
            rw [hPn hnp]
            exact X2 V.len V.old (.keep (.tup [] (by simp))) ⟨rfl, rfl⟩
          | succ c =>
            have t5' : tm 5 = .i ((c : Nat) : Int) := by rw [t5]; congr 1; omega
            have hge : ((c : Nat) : Int) ≥ 0 := by omega
            have hc1 : c < j := by omega
            have hc2 : c + 1 < j := by omega
            have hw1 : IntKind.i64.wrap ((c : Int) + 1) = ((c + 1 : Nat) : Int) := QP (by omega)
            have hw2 : IntKind.i64.wrap ((c : Int) - 1) = (c : Int) - 1 := Xp (by omega)
            by_cases hgt : σ.getD c 0 > σ.getD (c + 1) 0
            · repeat (first | ((first | (with_reducible refine Qk fun K E hK hE => ?_) | (refine Qu (id := 8) [(0, 0), (1, 0), (2, 0), (3, 0), (4, 0), (5, 0), (6, 0), (7, 0), (8, 0), (9, 0), (10, 0), (11, 0), (12, 0), (13, 0)] mixed (by kernel_rfl) fun K hK => ?_)); simp -implicitDefEqProofs only [Qe, Qf, OpW, aop, AS.ev, ↓reduceIte, QA, QB, Qt, aBin, ti3, ei49, t3, t5', hge, hc1, hc2, hw1, hw2, gi, gσ c hc1, gσ (c + 1) hc2, hgt, seval]) | (with_reducible (first | refine Qd fun K hK => ?_ | refine Qi ?_ | refine Qn ?_ | refine Qb ?_ | refine Qo ?_)) | ((with_reducible refine hK _ ?_); clear hK) | (refine Qg rfl ?_; simp only [↓reduceIte]))
              refine QV.mk (m' := c) (by omega) ?_
              rw [hI]
              refine ⟨c, rfl, by omega, ?_, t0, t1, t3, rfl, rfl⟩
              rw [hpv, pivot, if_pos hgt]
            · have hpc : pivot σ (j - 1) = (c : Nat) := by rw [hpv, pivot, if_neg hgt]
              have hneg : ¬ ((c : Nat) : Int) < 0 := by omega
              have hsome := Qjv (l := σ) (i := c) (by rw [hσl]; exact hpc)
              rw [hσl] at hsome
              repeat (first | ((first | (with_reducible refine Qa fun K E hK hE => ?_) | (refine Qu (id := 8) [(0, 0), (1, 0), (2, 0), (3, 0), (4, 0), (5, 0), (6, 0), (7, 0), (8, 0), (9, 0), (10, 0), (11, 0), (12, 0), (13, 0)] mixed (by kernel_rfl) fun K hK => ?_)); simp -implicitDefEqProofs only [Qe, Qf, OpW, aop, AS.ev, ↓reduceIte, QA, QB, Qt, aBin, ti3, ei49, t1, t3, t5', hge, hneg, hc1, hc2, hw1, gi, gσ c hc1, gσ (c + 1) hc2, hgt, hn1, seval]) | (with_reducible (first | refine Qd fun K hK => ?_ | refine Qi ?_ | refine Qn ?_ | refine QC ?_ | refine Qb ?_ | refine Qw ?_ | refine Qy ?_)) | ((with_reducible refine hK _ ?_); clear hK) | (clear hK; (with_reducible refine hK _ ?_); clear hK) | (refine Qg rfl ?_; simp only [↓reduceIte, QpQ]))
              obtain ⟨I, hI⟩ : ∃ I : Nat → AS → Prop, I = fun m' s => ∃ q : Nat, m' = q ∧ c + 1 ≤ q ∧ q ≤ j - 1 ∧ above σ (σ.getD c 0) (j - 1) = above σ (σ.getD c 0) q ∧ s.tm 0 = fv ∧ s.tm 1 = .pin 1 [.i j] 0 0 ∧ s.tm 3 = .arr (m + L.length) 0 j ∧ s.tm 5 = .i c ∧ s.tm 6 = .i q ∧ s.h = H (g v σ) ++ (L ++ [.cells 3 1 (ints σ)]) := ⟨_, rfl⟩; refine QI I ?_ (m := j - 1) ?_
              · intro m' s hs; rw [hI] at hs; obtain ⟨tm, hp⟩ := s; dsimp only at hs; obtain ⟨q, hmq, hq1, hq2, hab, t0, t1, t3, t5, t6, rfl⟩ := hs
                obtain ⟨q', rfl⟩ : ∃ q', q = q' + 1 := ⟨q - 1, by omega⟩
                have hqj : q' + 1 < j := by omega
                have hw3 : IntKind.i64.wrap (((q' + 1 : Nat) : Int) - 1) = ((q' : Nat) : Int) := by rw [Xp (by omega)]; omega
                by_cases hls : σ.getD (q' + 1) 0 < σ.getD c 0
                · have hne : q' + 1 ≠ c + 1 := fun e => by rw [e] at hls; exact hgt hls
                  repeat (first | ((first | (with_reducible refine Qk fun K E hK hE => ?_) | (refine Qu (id := 12) [(0, 0), (1, 0), (2, 0), (3, 0), (4, 0), (5, 0), (6, 0), (7, 0), (8, 0)] mixed (by kernel_rfl) fun K hK => ?_)); simp -implicitDefEqProofs only [Qe, Qf, OpW, aop, AS.ev, ↓reduceIte, QA, QB, Qt, aBin, ti3, ei49, t3, t5, t6, hqj, hc1, hw3, gi, gσ c hc1, gσ (q' + 1) hqj, hls, seval]) | (with_reducible (first | refine Qd fun K hK => ?_ | refine Qi ?_ | refine Qn ?_ | refine Qb ?_ | refine Qo ?_)) | ((with_reducible refine hK _ ?_); clear hK) | (refine Qg rfl ?_; simp only [↓reduceIte]))
                  refine QV.mk (m' := q') (by omega) ?_
                  rw [hI]
                  exact ⟨q', rfl, by omega, by omega, by rw [hab, QmA hls], t0, t1, t3, t5, rfl, rfl⟩
                · rw [hab, Qjp hls] at hsome
                  have hsw : ((ints σ).set c (.i (σ.getD (q' + 1) 0))).set (q' + 1) (.i (σ.getD c 0)) = ints ((σ.set c (σ.getD (q' + 1) 0)).set (q' + 1) (σ.getD c 0)) := by simp only [ints, List.map_set]
                  have gq2 : ((ints σ).set c (.i (σ.getD (q' + 1) 0)))[q' + 1]? = some (.i (σ.getD (q' + 1) 0)) := by rw [List.getElem?_set_ne (by omega)]; exact gσ _ hqj
                  generalize hB : (σ.set c (σ.getD (q' + 1) 0)).set (q' + 1) (σ.getD c 0) = B at hsome hsw
                  have hBl : B.length = j := by rw [← hB]; simp [hσl]
                  have hA : (B.take (c + 1)).length = c + 1 := by rw [List.length_take]; omega
                  have hD : (B.drop (c + 1)).length = j - (c + 1) := by rw [List.length_drop]; omega
                  have hr := rc (g v σ) (B.take (c + 1)) (B.drop (c + 1)) (by omega) (by omega)
                  rw [List.take_append_drop, hA, hD] at hr
                  have hlt2 : c + 1 < j := hc2
                  have hle2 : c + 1 ≤ j := by omega
                  have hsub : ((j : Int) - ((c + 1 : Nat) : Int)).toNat = j - (c + 1) := by omega
                  obtain ⟨k', hk1, hk2, hk3⟩ := hPs _ hsome
                  repeat (first | ((first | (with_reducible (first | refine Qk fun K E hK hE => ?_ | refine FunW.ret (FunW.call hr) ?_)) | (refine Qu (id := 12) [(0, 0), (1, 0), (2, 0), (3, 0), (4, 0), (5, 0), (6, 0), (7, 0), (8, 0)] mixed (by kernel_rfl) fun K hK => ?_) | (refine Qu (id := 14) [(0, 0), (1, 0), (2, 1), (3, 1), (4, 0), (5, 0), (6, 0), (7, 0), (8, 0), (9, 0), (10, 0), (11, 0), (12, 0), (13, 2), (14, 0), (15, 2)] mixed (by kernel_rfl) fun K hK => ?_)); simp -implicitDefEqProofs only [Qe, Qf, OpW, QK, aop, undef, AS.ev, AV.QoY, ↓reduceIte, QA, QB, QO, QH, Qt, aBin, Z6, Xj, ti3, ei49, Qqz, t3, t5, t6, hqj, hc1, hw1, gi, si, gσ c hc1, gσ (q' + 1) hqj, gq2, hls, hsw, hlt2, hle2, hsub, seval]) | (with_reducible (first | refine Qd fun K hK => ?_ | refine QC ?_ | refine Qb ?_ | refine Qw ?_ | refine Qo ?_ | refine Qy ?_)) | ((with_reducible refine hK _ ?_); clear hK) | (clear hK; (with_reducible refine hK _ ?_); clear hK) | (refine Qg rfl ?_; simp only [↓reduceIte, QpQ]))
                  refine QV.mk (m' := k') (by omega) ?_
                  rw [hO]
                  refine ⟨k', _, g v σ, dn ++ [σ], rfl, hk2, by rw [List.foldl_append, ← hv]; rfl, hJ2, hk3, t0, t1, t3, rfl⟩
              · rw [hI]
                exact ⟨j - 1, rfl, by omega, Nat.le_refl _, rfl, t0, t1, t3, t5', rfl, rfl⟩
        · rw [hI]
          refine ⟨j - 1, rfl, Nat.le_refl _, rfl, t0, t1, t3, ?_, rfl⟩
          simp only [upd, ↓reduceIte]
          congr 1
          congr 1
          omega
      · rw [hI]
        exact ⟨720, nums j, u, [], rfl, rfl, rfl, hJ, Ql8 hn6, t0, t1, t3, rfl⟩
  · rw [hI]
    exact ⟨0, by omega, Nat.zero_le _, rfl, rfl, rfl, rfl, rfl, by simp [nums]⟩
theorem Qf9 {P : Program} {N : Nat} {x : Code} {Q : AExit → AS → Prop} {tm : Nat → AV} {h : AH} (id d k off : Nat) {ty s : Nat} {xs : List AV} (hb : h[id]? = some (.cells ty s xs)) (hd : tm d = .ptr id k off)
  (H : Xz P N x Q ⟨upd tm d (.pin s xs k off), h.set id .dead⟩) : Xz P N x Q ⟨tm, h⟩ := by
 intro F n base c a hF hst hr R hR
 have hh : c.h = h := hr.h
 subst hh
 have hev := Ev.kill hb
 have hst2 := hst.kill hb
 refine H F n base (c.kill id) a hF hst2 ⟨rfl, hr.size, hr.above, hr.defers.ev hev, RoundOk.ev hev hr.round, fun t => ?_⟩ R fun e' s' c' a' ex hq h1 h2 h3 h4 => hR e' s' c' a' ex hq (Ev.trans hst hev h1) h2 h3 h4
 show Rel (c.kill id) (if t = d then .pin s xs k off else tm t) _
 split
 ·rename_i ht
  subst ht
  have h0 := hr.tm t
  rw [show (AS.mk tm c.h).tm t = tm t from rfl, hd] at h0
  generalize a.tmps.getD t undef = u at h0
  cases h0 with
  | ptr _ _ _ x hid ho h1 =>
   obtain ⟨B, hρ, rfl⟩ := h1 _ _ _ hb
   obtain ⟨h4, f, h5⟩ := Qcb hst hb hρ
   have := Rel.pin (c := c.kill id) s xs k off B 0 f h4 (fun j a hj => (h5 j a hj).1) (fun j a hj => (h5 j a hj).2)
   rwa [Nat.zero_add] at this
 ·exact (hr.tm t).ev hst hev
mutual
theorem T.QpD (m : Int → Option Int) : ∀ t : T, (t.ren m).nds ≤ t.nds
 | .mk k i n l => by
  simp only [T.ren]
  split
  ·split
   ·simp only [T.nds, ndsL]; omega
   ·exact Nat.le_refl _
  ·split
   ·simp only [T.nds]; have := Qap m l; omega
   ·exact Nat.le_refl _
theorem Qap (m : Int → Option Int) : ∀ l : List T, ndsL (rens m l) ≤ ndsL l
 | [] => Nat.le_refl _
 | t :: l => by
  simp only [rens, ndsL]
  have := T.QpD m t
  have := Qap m l
  omega
end
theorem Qif {a b : List G} (h : a.Perm b) : gsN a = gsN b := by
 induction h with
 | nil => rfl
 | cons x _ ih => simp only [gsN, ih]
 | swap x y l => simp only [gsN]; omega
 | trans _ _ h1 h2 => exact h1.trans h2
theorem QhC (m : Int → Option Int) : ∀ l : List G, gsN (l.map (G.ren m)) ≤ gsN l
 | [] => Nat.le_refl _
 | g :: l => by
  simp only [Qp1, gsN, G.ren]
  have := Qap m g.args
  have := QhC m l
  omega
def ansG (n : Int) (c : Ct) (L σ : List Int) : Ct := ⟨rens (toMG n L σ) c.vals, YA cmpG (c.store.map (G.ren (toMG n L σ)))⟩
def esR (n : Int) (σ : List Int) : Nat → List Int → List (Int × AV)
 | _, [] => []
 | k, v :: l => (v, .i (n + σ.getD k 0)) :: esR n σ (k + 1) l
theorem Qhr (n : Int) (σ : List Int) (v : Int) : ∀ (L : List Int) (k : Nat), QaO v (esR n σ k L) = if v ∈ L then some (.i (n + σ.getD (k + plc L v) 0)) else none
 | [], k => rfl
 | a :: l, k => by
  show (if v = a then some (AV.i (n + σ.getD k 0)) else QaO v (esR n σ (k + 1) l)) = _
  rw [Qhr n σ v l (k + 1)]
  by_cases e : v = a
  ·subst e; simp [plc]
  ·have e' : ¬ a = v := fun q => e q.symm
   have : k + 1 + plc l v = k + (plc l v + 1) := by omega
   rw [if_neg e]
   simp only [List.mem_cons, e, false_or, plc, e', ↓reduceIte, this]
theorem QmP (n : Int) (L σ : List Int) (v : Int) : QaO v (esR n σ 0 L) = (toMG n L σ v).map fun x => AV.i x := by
 rw [Qhr, Nat.zero_add]; unfold toMG; split <;> rfl
theorem Qio (n : Int) (σ : List Int) (v : Int) : ∀ (L : List Int) (k : Nat), esR n σ k (L ++ [v]) = esR n σ k L ++ [(v, .i (n + σ.getD (k + L.length) 0))]
 | [], k => rfl
 | a :: l, k => by
  simp only [Qqe, esR, Qio n σ v l (k + 1), QpZ]
  have : k + 1 + l.length = k + (l.length + 1) := by omega
  rw [this]
def Zs : Option Ct → AV
 | none => .v (.pointer none)
 | some d => .pin 3 [(An.mk false d.vals d.store).av] 0 0
def QhW (b : Option Ct) (a : Ct) : Option Ct := match b with
 | none => some a
 | some d => if cmpA a d < 0 then some a else some d
theorem QeF (d : Ct) : ∀ l : List Ct, l.foldl QhW (some d) = some (Y2 cmpA d l)
 | [] => rfl
 | a :: l => by
  rw [List.foldl_cons, Qa7]
  show l.foldl QhW (if cmpA a d < 0 then some a else some d) = _
  split <;> exact QeF _ l
def esS (n : Int) (L : List Int) : Option (List Int) → List (Int × AV)
 | none => []
 | some σ => esR n σ 0 L
def QaP (n : Int) (c : Ct) (L : List Int) (s : Option Ct × Option (List Int)) (σ : List Int) : Option Ct × Option (List Int) := (QhW s.1 (ansG n c L σ), some σ)
theorem QgO (n : Int) (σ : List Int) (m : Nat) : ∀ (L : List Int) (k : Nat), ∀ kv ∈ esR n σ k L, Below m kv.2
 | [], k, kv, h => by simp [esR] at h
 | a :: l, k, kv, h => by
  simp only [esR, List.mem_cons] at h
  rcases h with rfl | h
  ·exact .v _
  ·exact QgO n σ m l (k + 1) kv h
def Yo (n : Int) (c : Ct) (L : List Int) : Ct := match XL 720 (nums L.length) with
 | e :: E => Y2 cmpA (ansG n c L e) (E.map (ansG n c L))
 | [] => c
theorem QgZ (n : Int) (c : Ct) (L : List Int) : ∀ (l : List (List Int)) (s : Option Ct × Option (List Int)), (l.foldl (QaP n c L) s).1 = (l.map (ansG n c L)).foldl QhW s.1
 | [], s => rfl
 | σ :: l, s => by rw [List.foldl_cons, QgZ n c L l, List.map_cons, List.foldl_cons]; rfl
theorem QiS (n : Int) (c : Ct) (L : List Int) : ((XL 720 (nums L.length)).foldl (QaP n c L) (none, none)).1 = some (Yo n c L) := by
 rw [QgZ, Yo]
 cases h : XL 720 (nums L.length) with
 | nil =>
  have q := Qdk 720 (nums L.length)
  rw [h] at q; cases q
 | cons e E => rw [List.map_cons, List.foldl_cons]; exact QeF _ _
theorem QjM {P M : AH} {X X' b Y Y' row : AB} {id : Nat} (hX : X ≠ row) (hY : Y ≠ row) (h : (P ++ X :: b :: Y :: M)[id]? = some row) : (P ++ X' :: b :: Y' :: M)[id]? = some row := by
 by_cases h1 : id < P.length
 ·rw [List.getElem?_append_left h1] at h ⊢; exact h
 ·rw [List.getElem?_append_right (by omega)] at h ⊢
  generalize id - P.length = j at h ⊢
  match j, h with
  | 0, h => simp only [QpM, QpS] at h; exact absurd h hX
  | 1, h => exact h
  | 2, h => simp only [QpN, QpM, QpS] at h; exact absurd h hY
  | j + 3, h => exact h
theorem QlV {n : Nat} {σ : List Int} (hσ : σ.Perm (nums n)) {k : Nat} (hk : k < n) : 0 ≤ σ.getD k 0 ∧ σ.getD k 0 < n := by
 have hl : k < σ.length := by rw [hσ.length_eq, nums_length]; exact hk
 rw [getD_lt hl]
 obtain ⟨j, hj, e⟩ := Qaw.1 (hσ.mem_iff.1 (List.getElem_mem hl))
 omega
def X9 (h : AH) (c : Ct) (n : Int) (L : List Int) (i0 : LoopA) (s : Option Ct × Option (List Int)) : AH :=
 h ++ [.cells 76 2 [c.av], .cells 3 1 [.i n], .cells 49 1 [.sl 1 (ints L) none], .cells 32 3 [.agg [.v (.bool false), .v (.slice none 0 0), .v (.slice none 0 0)]], .cells 114 1 [Zs s.1], .map (imap (esS n L s.2)), .cells 115 1 [.mp (h.length + 5)], .loop i0]
theorem X1 (h : AH) (c : Ct) (n : Int) (L : List Int) (i0 : LoopA) (s : Option Ct × Option (List Int)) : (X9 h c n L i0 s).length = h.length + 8 := by simp [X9]
theorem QjB {m : Nat} {es : List (Int × AV)} (h : ∀ kv ∈ es, Below m kv.2) : (AB.map (imap es)).Below m := fun kv hkv => by
 simp only [imap, List.mem_map] at hkv
 obtain ⟨x, hx, rfl⟩ := hkv
 exact h x hx
theorem Qeq (h : AH) (c : Ct) (n : Int) (L : List Int) (i0 : LoopA) (s s' : Option Ct × Option (List Int)) (i : Nat) (b : AB) (hb : (X9 h c n L i0 s')[i]? = some b) : (X9 h c n L i0 s)[i]? = some b ∨ b.Below (h.length + 8) := by
 rcases Nat.lt_or_ge i h.length with hi | hi
 ·unfold X9 at hb ⊢
  rw [List.getElem?_append_left hi] at hb
  exact .inl (by rw [List.getElem?_append_left hi]; exact hb)
 ·obtain ⟨k, rfl⟩ : ∃ k, i = h.length + k := ⟨i - h.length, by omega⟩
  unfold X9 at hb ⊢
  rw [hget] at hb ⊢
  match k, hb with
  | 0, hb => exact .inl hb
  | 1, hb => exact .inl hb
  | 2, hb => exact .inl hb
  | 3, hb => exact .inl hb
  | 4, hb =>
   simp only [QpN, QpM, QpS] at hb
   subst hb
   refine .inr fun a ha => ?_
   simp only [flat, List.flatMap_cons, List.flatMap_nil, Qqf] at ha
   cases hs : s'.1 with
   | none => rw [hs] at ha; simp only [Zs, AV.cells, List.mem_singleton] at ha; subst ha; exact .v _
   | some d =>
    rw [hs] at ha
    simp only [Zs, AV.cells, List.mem_singleton] at ha
    subst ha
    refine .pin _ _ _ _ fun a ha => ?_
    simp only [flat, List.flatMap_cons, List.flatMap_nil, Qqf, An.cells, List.mem_cons, List.not_mem_nil, or_false] at ha
    rcases ha with rfl | rfl | rfl
    ·exact .v _
    ·exact X0 _ _
    ·exact QaC _ _ _ (ZH _) _
  | 5, hb =>
   simp only [QpN, QpM, QpS] at hb
   subst hb
   refine .inr (QjB fun kv hkv => ?_)
   cases hs : s'.2 with
   | none => rw [hs] at hkv; simp [esS] at hkv
   | some σ => rw [hs] at hkv; exact QgO _ _ _ _ _ kv hkv
  | 6, hb => exact .inl hb
  | 7, hb => exact .inl hb
  | k + 8, hb => simp at hb
theorem Qho {X Y D : AH} {r : AV} {Q : AV → AH → Prop} (hl : X.length = Y.length) (ho : ∀ (i : Nat) b, Y[i]? = some b → X[i]? = some b ∨ b.Below Y.length) (hr : Below Y.length r) (hq : Q r Y) : Leaves X (Y ++ D) r Q :=
 .inl ⟨Y.length, r, by omega, by simp, .inr fun i b hb => ho i b (by rw [List.take_left] at hb; exact hb), .keep hr, by rw [List.take_left]; exact hq⟩
theorem ZG (h : AH) (c : Ct) (n : Int) (L : List Int) (i0 : LoopA) (s s' : Option Ct × Option (List Int)) (M D : AH) {Q : AV → AH → Prop} (hq : Q (.b true) (X9 h c n L i0 s' ++ M)) : Leaves (X9 h c n L i0 s ++ M) (X9 h c n L i0 s' ++ M ++ D) (.b true) Q := by
 refine Qho (by rw [List.length_append, List.length_append, X1, X1]) (fun i b hb => ?_) (.v _) hq
 rcases Nat.lt_or_ge i (h.length + 8) with hi | hi
 ·rw [List.getElem?_append_left (by rw [X1]; exact hi)] at hb
  rcases Qeq h c n L i0 s s' i b hb with h1 | h1
  ·exact .inl (by rw [List.getElem?_append_left (by rw [X1]; exact hi)]; exact h1)
  ·exact .inr (h1.mono (by rw [List.length_append, X1]; omega))
 ·rw [List.getElem?_append_right (by rw [X1]; exact hi), X1] at hb
  exact .inl (by rw [List.getElem?_append_right (by rw [X1]; exact hi), X1]; exact hb)
theorem An.below (m : Nat) (a : An) : Below m a.av := .agg _ fun x hx => by
 simp only [List.mem_cons, List.not_mem_nil, or_false] at hx
 rcases hx with rfl | rfl | rfl
 ·exact .v _
 ·exact X0 _ _
 ·exact QaC _ _ _ (ZH _) _
theorem QiW (c : Ct) (n : Int) (L : List Int) (hn : 0 ≤ n ∧ n ≤ 1000) (hL : L.length ≤ 6) (hLn : L.Nodup) (hv : ndsL c.vals ≤ 1000000) (hs : gsN c.store ≤ 1000000) (hk12 : c.store.length ≤ 12) :
  Pure Tryz.prog 40 [c.av, .i n, .sl 1 (ints L) none] (An.mk false (Yo n c L).vals (Yo n c L).store).av := by
 intro h
 have cp := Qb7 L.length
 refine Qh Tryz.func40 rfl Tryz.call40 Tryz.ntmps40 (congrArg Array.toList Tryz.results40) (by simp) ?_
 repeat (first | ((first | (with_reducible (first | refine Qa fun K E hK hE => ?_ | refine Qp cp ?_))); simp -implicitDefEqProofs only [Qe, Qf, OpW, QK, aop, undef, AS.ev, Qv, AV.QoY, ↓reduceIte, QA, QB, QO, QH, aLen, goInt, zi32, ti49, un49, QoD, Qe9, QoP, Ct.cells, seval]) | (with_reducible (first | refine Qd fun K hK => ?_ | refine Qi ?_)) | ((with_reducible refine hK _ ?_); clear hK))
 refine Qal rfl ?_
 simp -implicitDefEqProofs only [Qe, Nat.reduceAdd]
 generalize hi0 : LoopA.mk _ _ _ _ _ _ _ = i0
 have hat : ∀ a b, (i0.at a b).at .ready none = i0 := fun a b => by rw [← hi0]; rfl
 have V : VisP (.mp (h.length + 7)) (X9 h c n L i0) (QaP n c L) (fun _ => True) L.length (h.length + 8) := by
  refine ⟨fun s => X1 .., fun sb σ a M _ hσ ha => ?_, fun _ _ _ _ => trivial, fun s s' i b hb => ?_⟩
  ·refine Qh0 ?_
   refine Qd8 (i := i0) (by unfold X9; rw [happ, hget]; rfl) (by rw [← hi0]; rfl) (fun t ht => by rw [← hi0] at ht ⊢; simp at ht; subst ht; show (17 : Nat) < 51; omega) ?_
   unfold X9
   rw [← hi0]
   dsimp only
   rw [hi0]
   simp only [updL, happ]
   repeat (first | (((with_reducible refine Qk fun K E hK hE => ?_)); simp -implicitDefEqProofs only [Qe, Qf, OpW, aop, AS.ev, ↓reduceIte, Nat.reduceLT]) | ((with_reducible refine hK _ ?_); clear hK))
   refine ⟨i0, by rw [hget]; rfl, by rw [← hi0], ?_⟩
   simp -implicitDefEqProofs only [Qe]
   repeat (first | (((with_reducible refine Qa fun K E hK hE => ?_)); simp -implicitDefEqProofs only [Qe, Qf, OpW, aop, AS.ev, ↓reduceIte, QA, QB, aLen, goInt, ti49, un49, Qe9, QoM, Qev, seval]) | (with_reducible (first | refine Qd fun K hK => ?_ | refine Qi ?_)) | ((with_reducible refine hK _ ?_); clear hK))
   have hσl : σ.length = L.length := by rw [hσ.length_eq, nums_length]
   have hmem : ∀ g ∈ c.store.map (G.ren (toMG n L σ)), ndsL g.args ≤ 1000000 := fun g hg => by
    obtain ⟨x, hx, rfl⟩ := List.mem_map.1 hg
    obtain ⟨k, hk, rfl⟩ := List.getElem_of_mem hx
    have h1 := Qa3 hk
    have h2 := Qap (toMG n L σ) (c.store[k]).args
    simp only [G.ren]; omega
   have rcall : ∀ (bv : AV) (lp : LoopA) (T : AH), Xf Tryz.prog 79 [c.av, .mp (h.length + 5)] (h ++ AB.cells 76 2 [c.av] :: AB.cells 3 1 [AV.i n] :: AB.cells 49 1 [AV.sl 1 (ints L) none] :: AB.cells 32 3 [AV.agg [AV.v (.bool false), AV.v (.slice none 0 0), AV.v (.slice none 0 0)]] :: AB.cells 114 1 [bv] :: AB.map (imap (esR n σ 0 L)) :: AB.cells 115 1 [AV.mp (h.length + 5)] :: AB.loop lp :: T) fun o h' => o = .ret (An.mk false (ansG n c L σ).vals (ansG n c L σ).store).av ∧ h' = h ++ AB.cells 76 2 [c.av] :: AB.cells 3 1 [AV.i n] :: AB.cells 49 1 [AV.sl 1 (ints L) none] :: AB.cells 32 3 [AV.agg [AV.v (.bool false), AV.v (.slice none 0 0), AV.v (.slice none 0 0)]] :: AB.cells 114 1 [bv] :: AB.map (imap (esR n σ 0 L)) :: AB.cells 115 1 [AV.mp (h.length + 5)] :: AB.loop lp :: T := fun bv lp T =>
    QgM (QmP n L σ) c hv hs hk12 hmem _ (by rw [hget]; rfl)
   have hcA : ndsL (ansG n c L σ).vals ≤ 1000000 := Nat.le_trans (Qap _ _) hv
   have hcS : gsN (ansG n c L σ).store ≤ 1000000 := by
    show gsN (YA cmpG _) ≤ _
    rw [Qif (Yc cmpG _)]
    exact Nat.le_trans (QhC _ _) hs
   obtain ⟨I, hI⟩ : ∃ I : Nat → AS → Prop, I = fun m' s => ∃ k : Nat, m' = L.length - k ∧ k ≤ L.length ∧ s.tm 3 = .ptr h.length 0 0 ∧ s.tm 4 = .ptr (h.length + 1) 0 0 ∧ s.tm 7 = .ptr (h.length + 4) 0 0 ∧ s.tm 8 = .ptr (h.length + 6) 0 0 ∧ s.tm 9 = a ∧ s.tm 19 = .sl 1 (ints L) none ∧ s.tm 20 = .i L.length ∧ s.tm 21 = .i k ∧
     s.h = h ++ AB.cells 76 2 [c.av] :: AB.cells 3 1 [AV.i n] :: AB.cells 49 1 [AV.sl 1 (ints L) none] :: AB.cells 32 3 [AV.agg [AV.v (.bool false), AV.v (.slice none 0 0), AV.v (.slice none 0 0)]] :: AB.cells 114 1 [Zs sb.fst] :: AB.map (imap (esR n σ 0 (L.take k))) :: AB.cells 115 1 [AV.mp (h.length + 5)] :: AB.loop (i0.at .busy i0.pend) :: M := ⟨_, rfl⟩; refine QI I ?_ (m := L.length) ?_
   ·intro m' s hs; rw [hI] at hs; obtain ⟨tm, hp⟩ := s; dsimp only at hs; obtain ⟨k, rfl, hk, t3, t4, t7, t8, t9, t19, t20, t21, rfl⟩ := hs
    by_cases hlt : k < L.length
    ·obtain ⟨id, ea, hid⟩ : ∃ id, a = .arr id 0 L.length ∧ (X9 h c n L i0 sb ++ M)[id]? = some (.cells 3 1 (ints σ)) := ha.resolve_left (by omega)
     subst ea
     have hid2 : ∀ (es : List (Int × AV)) (lp : LoopA), (h ++ AB.cells 76 2 [c.av] :: AB.cells 3 1 [AV.i n] :: AB.cells 49 1 [AV.sl 1 (ints L) none] :: AB.cells 32 3 [AV.agg [AV.v (.bool false), AV.v (.slice none 0 0), AV.v (.slice none 0 0)]] :: AB.cells 114 1 [Zs sb.fst] :: AB.map (imap es) :: AB.cells 115 1 [AV.mp (h.length + 5)] :: AB.loop lp :: M)[id]? = some (.cells 3 1 (ints σ)) := fun es lp => by
      have h1 := QjM (row := AB.cells 3 1 (ints σ)) (P := h ++ [AB.cells 76 2 [c.av], AB.cells 3 1 [AV.i n], AB.cells 49 1 [AV.sl 1 (ints L) none], AB.cells 32 3 [AV.agg [AV.v (.bool false), AV.v (.slice none 0 0), AV.v (.slice none 0 0)]], AB.cells 114 1 [Zs sb.fst]]) (X' := AB.map (imap es)) (Y' := AB.loop lp) (M := M) (b := AB.cells 115 1 [AV.mp (h.length + 5)]) (X := AB.map (imap (esS n L sb.snd))) (Y := AB.loop i0) (by nofun) (by nofun) (id := id) (by
       rw [X9] at hid; simpa using hid)
      simpa using h1
     have hσk := QlV hσ hlt
     have hw1 : IntKind.i64.wrap (n + σ.getD k 0) = n + σ.getD k 0 := Xp (by omega)
     have hgo : (ints σ)[k]? = some (.i (σ.getD k 0)) := by rw [XK (by omega), getD_lt (by omega)]
     have hfr : QaO L[k] (esR n σ 0 (L.take k)) = none := by
      rw [Qhr, if_neg]
      intro hq
      obtain ⟨j, hj, e⟩ := List.getElem_of_mem hq
      rw [List.length_take] at hj
      rw [List.getElem_take] at e
      have := (List.nodup_iff_pairwise_ne.1 hLn)
      rw [List.pairwise_iff_getElem] at this
      exact this j k (by omega) hlt (by omega) e
     have hup : updA (.int .i64) (.int .i64 L[k]) (.i (n + σ.getD k 0)) (imap (esR n σ 0 (L.take k))) = some (imap (esR n σ 0 (L.take (k + 1)))) := by
      rw [QcI _ _ _ hfr, List.take_succ_eq_append_getElem hlt, Qio, List.length_take, Nat.zero_add, Nat.min_eq_left (by omega)]
     repeat (first | ((first | (with_reducible (first | refine Qa fun K E hK hE => ?_ | refine Qk fun K E hK hE => ?_)) | (refine QG (id := 9) [(0, 0), (1, 0), (2, 0), (3, 0), (4, 0), (5, 0), (6, 0), (7, 0), (8, 2)] mixed (by kernel_rfl) fun K hK => ?_)); simp -implicitDefEqProofs only [Qe, Qf, OpW, aop, undef, AS.ev, ↓reduceIte, QA, QB, Qt, aBin, Yd, ti3, ei49, Qe9, QiL, t4, t8, t9, t19, t20, t21, hlt, XK hlt, hid2, hgo, hw1, hup, seval]) | (with_reducible (first | refine Qd fun K hK => ?_ | refine Qi ?_ | refine Qn ?_ | refine Qb ?_ | refine Qo ?_)) | ((with_reducible refine hK _ ?_); clear hK) | (refine Qg rfl ?_; simp only [↓reduceIte]))
     refine QV.mk (m' := L.length - (k + 1)) (by omega) ?_
     rw [hI]
     refine ⟨k + 1, rfl, hlt, t3, t4, t7, t8, t9, t19, t20, ?_, rfl⟩
     simp only [upd, ↓reduceIte]
     rw [QP (by omega)]
    ·have hkl : k = L.length := by omega
     subst hkl
     rw [List.take_length]
     repeat (first | ((first | (with_reducible (first | refine Qa fun K E hK hE => ?_ | refine FunW.ret (FunW.call (rcall _ _ _)) ?_))); simp -implicitDefEqProofs only [Qe, Qf, OpW, QK, aop, undef, AS.ev, AV.QoY, ↓reduceIte, QA, QB, QO, QH, aBin, ti32, zi32, ti76, Qe9, An.cells, An.isAgg, Ct.cells, Ct.isAgg, t3, t8, t20, t21, hlt, seval]) | (with_reducible (first | refine Qd fun K hK => ?_ | refine QC ?_ | refine Qb ?_ | refine Qw ?_ | refine Qy ?_)) | ((with_reducible refine hK _ ?_); clear hK) | (clear hK; (with_reducible refine hK _ ?_); clear hK) | (refine Qg rfl ?_; simp only [↓reduceIte, QpQ]))
     refine Qf9 (h.length + (M.length + 8)) 12 0 0 (ty := 32) (s := 3) (xs := [(An.mk false (ansG n c L σ).vals (ansG n c L σ).store).av]) (by rw [hget]; simp) rfl ?_
     simp -implicitDefEqProofs only [Qjx, hset, Qqg, Qqh]
     have hU : (Tryz.prog).underlying 114 = some (.pointer 32) := by kernel_rfl
     have hNN : ∀ (hx : AH) (s : Nat) (xs : List AV) (k o : Nat), notNil Tryz.prog 114 hx (.pin s xs k o) (.pointer none) = true := fun hx s xs k o => by simp only [notNil, hU]
     have hNil : ∀ xo : Operand, pv Tryz.prog (do eqGuard .eql 114 xo (.const (.pointer none)) (.pointer none) (.pointer none); binOp .eql 114 (.pointer none) (.pointer none)) = some (.bool true) := fun xo => by kernel_rfl
     have hcmp : ∀ d : Ct, ZZ (An.mk false (ansG n c L σ).vals (ansG n c L σ).store) (An.mk false d.vals d.store) = cmpA (ansG n c L σ) d := fun d => rfl
     cases hb : sb.fst with
     | none =>
      repeat (first | ((first | (with_reducible refine Qk fun K E hK hE => ?_) | (refine QG (id := 12) [(0, 0), (1, 0), (2, 0), (3, 0), (4, 0), (5, 0), (6, 0), (7, 1), (8, 0), (9, 0)] mixed (by kernel_rfl) fun K hK => ?_)); simp -implicitDefEqProofs only [Qe, Qf, OpW, aop, undef, AS.ev, AV.QoY, ↓reduceIte, QA, QB, QO, QH, aBin, QmO, t7, Zs, hNil, seval]) | (with_reducible (first | refine Qb ?_ | refine Qo ?_)) | ((with_reducible refine hK _ ?_); clear hK) | (refine Qg rfl ?_; simp only [↓reduceIte]))
      refine ⟨i0.at .busy i0.pend, by rw [hget]; rfl, ?_⟩
      simp -implicitDefEqProofs only [hset, Qqg, Qqh, hat]
      refine ⟨.b true, rfl, ?_⟩
      have hlv := ZG h c n L i0 sb (QaP n c L sb σ) M [AB.dead] (Q := fun r h'' => AOut.ret r = AOut.ret (.b true) ∧ h'' = X9 h c n L i0 (QaP n c L sb σ) ++ M) ⟨rfl, rfl⟩
      have est : QaP n c L sb σ = (some (ansG n c L σ), some σ) := by simp only [QaP, QhW, hb]
      rw [est] at hlv ⊢
      simp only [X9, esS, Zs, hb, List.append_assoc, Qqe, Qqd] at hlv ⊢
      exact hlv
     | some d =>
      have cc := YZ (An.mk false (ansG n c L σ).vals (ansG n c L σ).store) (An.mk false d.vals d.store) hcA hcS
      rw [hcmp] at cc
      by_cases hlt0 : cmpA (ansG n c L σ) d < 0
      ·repeat (first | ((first | (with_reducible (first | refine Qk fun K E hK hE => ?_ | refine Qz cc ?_)) | (refine QG (id := 12) [(0, 0), (1, 0), (2, 0), (3, 0), (4, 0), (5, 0), (6, 0), (7, 1), (8, 0), (9, 0)] mixed (by kernel_rfl) fun K hK => ?_)); simp -implicitDefEqProofs only [Qe, Qf, OpW, aop, undef, AS.ev, AV.QoY, ↓reduceIte, QA, QB, QO, QH, aBin, ti32, QmO, QS, An.cells, An.isAgg, t7, Zs, hlt0, hNN, seval]) | (with_reducible (first | refine Qb ?_ | refine Qo ?_)) | ((with_reducible refine hK _ ?_); clear hK) | (refine Qg rfl ?_; simp only [↓reduceIte]))
       refine ⟨i0.at .busy i0.pend, by rw [hget]; rfl, ?_⟩
       simp -implicitDefEqProofs only [hset, Qqg, Qqh, hat]
       refine ⟨.b true, rfl, ?_⟩
       have hlv := ZG h c n L i0 sb (QaP n c L sb σ) M [AB.dead] (Q := fun r h'' => AOut.ret r = AOut.ret (.b true) ∧ h'' = X9 h c n L i0 (QaP n c L sb σ) ++ M) ⟨rfl, rfl⟩
       have est : QaP n c L sb σ = (some (ansG n c L σ), some σ) := by simp only [QaP, QhW, hb, hlt0, ↓reduceIte]
       rw [est] at hlv ⊢
       simp only [X9, esS, Zs, hb, List.append_assoc, Qqe, Qqd] at hlv ⊢
       exact hlv
      ·repeat (first | ((first | (with_reducible refine Qz cc ?_) | (refine QG (id := 12) [(0, 0), (1, 0), (2, 0), (3, 0), (4, 0), (5, 0), (6, 0), (7, 1), (8, 0), (9, 0)] mixed (by kernel_rfl) fun K hK => ?_)); simp -implicitDefEqProofs only [Qe, Qf, aop, AS.ev, ↓reduceIte, QA, QB, aBin, ti32, QmO, QS, An.cells, An.isAgg, t7, Zs, hlt0, hNN, seval]) | (with_reducible (first | refine Qn ?_ | refine Qb ?_ | refine Qo ?_)) | ((with_reducible refine hK _ ?_); clear hK) | (refine Qg rfl ?_; simp only [↓reduceIte, QpQ]))
       refine ⟨i0.at .busy i0.pend, by rw [hget]; rfl, ?_⟩
       simp -implicitDefEqProofs only [hset, Qqg, Qqh, hat]
       refine ⟨.b true, rfl, ?_⟩
       have hlv := ZG h c n L i0 sb (QaP n c L sb σ) M [AB.dead] (Q := fun r h'' => AOut.ret r = AOut.ret (.b true) ∧ h'' = X9 h c n L i0 (QaP n c L sb σ) ++ M) ⟨rfl, rfl⟩
       have est : QaP n c L sb σ = (some d, some σ) := by simp only [QaP, QhW, hb, hlt0, ↓reduceIte]
       rw [est] at hlv ⊢
       simp only [X9, esS, Zs, hb, List.append_assoc, Qqe, Qqd] at hlv ⊢
       exact hlv
   ·rw [hI]
    exact ⟨0, by omega, Nat.zero_le _, rfl, rfl, rfl, rfl, rfl, rfl, rfl, rfl, rfl⟩
  ·exact Qeq h c n L i0 s s' i b hb
 have hcall : Xf Tryz.prog 121 [.mp (h.length + 7), .pin 1 [.i L.length] 0 0] (X9 h c n L i0 (none, none)) fun o h' => o = .ret (.tup []) ∧ h' = X9 h c n L i0 ((XL 720 (nums L.length)).foldl (QaP n c L) (none, none)) := by
  by_cases h0 : 0 < L.length
  ·have := Qh3 V h0 hL (none, none) [] trivial
   simpa only [Qqf] using this
  ·have h00 : L.length = 0 := by omega
   have V0 := V
   rw [h00] at V0
   have := Qjo V0 (none, none) [] trivial
   rw [h00]
   simpa only [Qqf] using this
 refine hcall.mono ?_
 rintro o h' ⟨rfl, rfl⟩
 have hne : i0.st ≠ .busy := by
  have hst : i0.st = .ready := by rw [← hi0]
  rw [hst]
  exact fun hq => by cases hq
 have hlf := QiS n c L
 unfold X9
 rw [hlf]
 refine ⟨i0, by rw [hget]; rfl, hne, ?_⟩
 have hp : i0.pend = none := by rw [← hi0]
 rw [hp]
 rw [Qhj]
 simp -implicitDefEqProofs only [Qe, Zs]
 repeat (first | (((with_reducible refine Qa fun K E hK hE => ?_)); simp -implicitDefEqProofs only [Qe, Qf, OpW, aop, undef, AS.ev, AV.QoY, ↓reduceIte, QA, QB, QO, QH, ti32, QmO, QS, An.cells, An.isAgg, seval]) | (with_reducible refine Qj ?_) | ((with_reducible refine hK _ ?_); clear hK))
 simp -implicitDefEqProofs only [Qe, ↓reduceIte, QA, QB, ti32, An.cells, An.isAgg, QD, Ql, Qr, QpW, seval]
 exact Qc (htake _ _) (.keep (An.below _ _)) ⟨rfl, rfl⟩
def ZP (x : It) : Bool := !rightAtomB x.atom
theorem QmS (x : It) : Pure Tryz.prog 32 [x.av] (.b (ZP x)) := by
 intro h
 have c1 : Pure Tryz.prog 33 [.agg [.v (.string x.atom.name), .sl 4 (avs x.atom.args) none]] (.b (rightAtomB x.atom)) := YG x.atom
 refine Qh Tryz.func32 rfl Tryz.call32 Tryz.ntmps32 (congrArg Array.toList Tryz.results32) (by simp) ?_
 repeat (first | ((first | (with_reducible (first | refine Qa fun K E hK hE => ?_ | refine Qp c1 ?_))); simp -implicitDefEqProofs only [Qe, Qf, OpW, QK, aop, undef, AS.ev, Qv, AV.QoY, ↓reduceIte, Qm, QA, QB, ti45, Qdy, It.cells, It.isAgg, seval]) | (with_reducible refine Qj ?_) | ((with_reducible refine hK _ ?_); clear hK))
 simp only [QD, Ql, Qr, upd, ↓reduceIte, QpS, QpW]; first | refine Qc (htake _ _) (.keep (.v _)) ⟨rfl, rfl⟩ | refine Qc List.take_length (.keep (.v _)) ⟨rfl, rfl⟩
def idxB (p : It → Bool) : List It → Option Nat
 | [] => none
 | a :: l => if p a = true then some 0 else (idxB p l).map (· + 1)
theorem Qir (p : It → Bool) : ∀ l : List It, (idxB p l).isSome = l.any p
 | [] => rfl
 | a :: l => by
  simp only [idxB, List.any_cons]
  cases h : p a with
  | true => simp
  | false => simp [Qir p l]
def Qh7 (p : It → Bool) (l : List It) : Int := match idxB p l with | some i => i | none => -1
theorem Qju (l : List It) (hb : l.length ≤ 1000000) : Pure Tryz.prog 72 [.sl 3 (vs It.av l) none, .fn (.func 32) [] []] (.i (Qh7 ZP l)) := by
 intro h
 refine Qh Tryz.func72 rfl Tryz.call72 Tryz.ntmps72 (congrArg Array.toList Tryz.results72) (by simp) ?_
 repeat (first | (((with_reducible refine Qa fun K E hK hE => ?_)); simp -implicitDefEqProofs only [Qe, Qf, OpW, aop, undef, AS.ev, Qv, ↓reduceIte, aLen, goInt, un24, QR, seval]) | (with_reducible (first | refine Qd fun K hK => ?_ | refine Qi ?_)) | ((with_reducible refine hK _ ?_); clear hK))
 obtain ⟨I, hI⟩ : ∃ I : Nat → AS → Prop, I = fun m' s => ∃ j : Nat, m' = l.length - j ∧ j ≤ l.length ∧ idxB ZP l = (idxB ZP (l.drop j)).map (· + j) ∧ s.tm 0 = .sl 3 (vs It.av l) none ∧ s.tm 1 = .fn (.func 32) [] [] ∧ s.tm 7 = .i l.length ∧ s.tm 8 = .i j ∧ s.h = h := ⟨_, rfl⟩; refine QI I ?_ (m := l.length) ?_
 ·intro m' s hs; rw [hI] at hs; obtain ⟨tm, hp⟩ := s; dsimp only at hs; obtain ⟨j, rfl, hj, he, t0, t1, t7, t8, rfl⟩ := hs
  by_cases hlt : j < l.length
  ·rw [List.drop_eq_getElem_cons hlt] at he
   simp only [idxB] at he
   have hc := QmS l[j]
   cases hz : ZP l[j] with
   | true =>
    rw [if_pos hz] at he
    rw [hz] at hc
    repeat (first | ((first | (with_reducible (first | refine Qa fun K E hK hE => ?_ | refine Qp hc ?_))); simp -implicitDefEqProofs only [Qe, Qf, OpW, QK, aop, AS.ev, ↓reduceIte, QA, QB, Qt, aBin, ei24, ti48, t0, t1, t7, t8, hlt, QR, XR It.av hlt, It.cells, It.isAgg, seval]) | (with_reducible (first | refine Qd fun K hK => ?_ | refine Qi ?_ | refine Qj ?_ | refine Qn ?_ | refine Qb ?_ | refine Qq ?_ | refine Qs ?_)) | ((with_reducible refine hK _ ?_); clear hK) | (refine Qg rfl ?_; simp only [↓reduceIte]))
    simp only [QD, Ql, Qr, upd, ↓reduceIte, QpS, QpW]
    exact Qc List.take_length (.keep (.v _)) ⟨by simp [Qh7, he], rfl⟩
   | false =>
    rw [if_neg (by rw [hz]; decide)] at he
    rw [hz] at hc
    repeat (first | ((first | (with_reducible (first | refine Qa fun K E hK hE => ?_ | refine Qk fun K E hK hE => ?_ | refine Qp hc ?_))); simp -implicitDefEqProofs only [Qe, Qf, OpW, QK, aop, AS.ev, ↓reduceIte, QA, QB, Qt, aBin, ei24, ti48, t0, t1, t7, t8, hlt, QR, XR It.av hlt, It.cells, It.isAgg, seval]) | (with_reducible (first | refine Qd fun K hK => ?_ | refine Qi ?_ | refine Qn ?_ | refine Qb ?_ | refine Qo ?_)) | ((with_reducible refine hK _ ?_); clear hK) | (refine Qg rfl ?_; simp only [↓reduceIte, QpQ]))
    refine QV.mk (m' := l.length - (j + 1)) (by omega) ?_
    rw [hI]
    refine ⟨j + 1, rfl, hlt, ?_, t0, t1, t7, ?_, rfl⟩
    ·rw [he, Option.map_map]
     congr 1
     funext x
     simp only [Function.comp]
     omega
    ·simp only [upd, ↓reduceIte]
     rw [QP (by omega)]
  ·have hjl : j = l.length := by omega
   rw [hjl, List.drop_length] at he
   simp only [idxB, Qqr] at he
   repeat (first | (((with_reducible refine Qa fun K E hK hE => ?_)); simp -implicitDefEqProofs only [Qe, Qf, OpW, aop, AS.ev, Nat.reduceLT, aBin, t7, t8, hlt]) | (with_reducible (first | refine Qd fun K hK => ?_ | refine Qj ?_ | refine QC ?_ | refine Qb ?_ | refine Qw ?_ | refine Qy ?_)) | ((with_reducible refine hK _ ?_); clear hK) | (clear hK; (with_reducible refine hK _ ?_); clear hK) | (refine Qg rfl ?_; simp only [↓reduceIte, QpQ]))
   simp only [QD, Ql, Qr, upd, ↓reduceIte, QpS, QpW]
   exact Qc List.take_length (.keep (.v _)) ⟨by simp [Qh7, he], rfl⟩
 ·rw [hI]
  exact ⟨0, by omega, Nat.zero_le _, by simp, rfl, rfl, rfl, rfl, rfl⟩
theorem ZL (l : List It) (hb : l.length ≤ 1000000) : Pure Tryz.prog 35 [.sl 3 (vs It.av l) none, .fn (.func 32) [] []] (.b (l.any ZP)) := by
 intro h
 have c1 := Qju l hb
 have e := Qir ZP l
 cases hi : idxB ZP l with
 | none =>
  have e1 : Qh7 ZP l = -1 := by simp [Qh7, hi]
  have e2 : l.any ZP = false := by rw [← e, hi]; rfl
  rw [e1] at c1
  have hm : ¬ ((-1 : Int) ≥ 0) := by decide
  rw [e2]
  refine Qh Tryz.func35 rfl Tryz.call35 Tryz.ntmps35 (congrArg Array.toList Tryz.results35) (by simp) ?_
  repeat (first | ((first | (with_reducible (first | refine Qa fun K E hK hE => ?_ | refine Qp c1 ?_))); simp -implicitDefEqProofs only [Qe, Qf, OpW, QK, aop, undef, AS.ev, Qv, ↓reduceIte, aBin, hm, seval]) | (with_reducible refine Qj ?_) | ((with_reducible refine hK _ ?_); clear hK))
  simp only [QD, Ql, Qr, upd, ↓reduceIte, QpS, QpW]; first | refine Qc (htake _ _) (.keep (.v _)) ⟨rfl, rfl⟩ | refine Qc List.take_length (.keep (.v _)) ⟨rfl, rfl⟩
 | some i =>
  have e1 : Qh7 ZP l = (i : Int) := by simp [Qh7, hi]
  have e2 : l.any ZP = true := by rw [← e, hi]; rfl
  rw [e1] at c1
  have hm : ((i : Int) ≥ 0) := by omega
  rw [e2]
  refine Qh Tryz.func35 rfl Tryz.call35 Tryz.ntmps35 (congrArg Array.toList Tryz.results35) (by simp) ?_
  repeat (first | ((first | (with_reducible (first | refine Qa fun K E hK hE => ?_ | refine Qp c1 ?_))); simp -implicitDefEqProofs only [Qe, Qf, OpW, QK, aop, undef, AS.ev, Qv, ↓reduceIte, aBin, hm, seval]) | (with_reducible refine Qj ?_) | ((with_reducible refine hK _ ?_); clear hK))
  simp only [QD, Ql, Qr, upd, ↓reduceIte, QpS, QpW]; first | refine Qc (htake _ _) (.keep (.v _)) ⟨rfl, rfl⟩ | refine Qc List.take_length (.keep (.v _)) ⟨rfl, rfl⟩
def subG (b : List (Int × T)) (g : G) : G := ⟨0, g.name, Xd b g.args⟩
theorem Qd2 (b : List (Int × T)) (hb : b.length ≤ 1000000) (g : G) (hn : ndsL g.args ≤ 1000000) : Pure Tryz.prog 38 [.sl 5 (bavs b) none, g.atom] (subG b g).atom := by
 intro h
 have c1 := Qcd b 1000000 (Nat.le_refl _) (apply_pure b hb 1000000 (Nat.le_refl _)) g.args hn
 refine Qh Tryz.func38 rfl Tryz.call38 Tryz.ntmps38 (congrArg Array.toList Tryz.results38) (by simp) ?_
 repeat (first | ((first | (with_reducible (first | refine Qa fun K E hK hE => ?_ | refine Qp c1 ?_))); simp -implicitDefEqProofs only [Qe, Qf, OpW, QK, aop, undef, AS.ev, Qv, AV.QoY, ↓reduceIte, Qm, QA, QB, QO, QH, ti29, ti45, YK, zi45, QT, Xa, seval]) | (with_reducible refine Qj ?_) | ((with_reducible refine hK _ ?_); clear hK))
 simp -implicitDefEqProofs only [Qe, ↓reduceIte, QA, QB, ti45, QD, Ql, Qr, QpW, seval]
 exact Qc (htake _ _) (.keep (.agg _ (ZH _ (subG b g)))) ⟨rfl, rfl⟩
mutual
theorem T.Qpe {b : List (Int × T)} {K : Nat} (hK : 1 ≤ K) (hb : ∀ x ∈ b, x.2.nds ≤ K) : ∀ t : T, (t.subst b).nds ≤ t.nds * K
 | .mk k i n l => by
  simp only [T.subst]
  split
  ·split
   ·rename_i x hx
    have := Qmh hb hx
    simp only [T.nds]
    have h1 : 1 * K ≤ (1 + ndsL l) * K := Nat.mul_le_mul_right _ (by omega)
    omega
   ·exact Nat.le_mul_of_pos_right _ hK
  ·split
   ·simp only [T.nds]
    have := QbZ hK hb l
    rw [Nat.add_mul]; omega
   ·exact Nat.le_mul_of_pos_right _ hK
theorem QbZ {b : List (Int × T)} {K : Nat} (hK : 1 ≤ K) (hb : ∀ x ∈ b, x.2.nds ≤ K) : ∀ l : List T, ndsL (Xd b l) ≤ ndsL l * K
 | [] => Nat.zero_le _
 | t :: l => by
  simp only [Xd, ndsL]
  have := T.Qpe hK hb t
  have := QbZ hK hb l
  rw [Nat.add_mul]; omega
theorem Qmh {b : List (Int × T)} {K : Nat} (hb : ∀ x ∈ b, x.2.nds ≤ K) {v : Int} {x : T} (h : XB b v = some x) : x.nds ≤ K := by
 induction b with
 | nil => simp [XB] at h
 | cons y b ih =>
  simp only [XB] at h
  split at h
  ·cases h; exact hb y (by simp)
  ·exact ih (fun z hz => hb z (by simp [hz])) h
end
theorem QlK {b : List (Int × T)} (hb : ∀ x ∈ b, i64 x.1 ∧ x.2.ok) {v : Int} {x : T} (h : XB b v = some x) : x.ok := by
 induction b with
 | nil => simp [XB] at h
 | cons y b ih =>
  simp only [XB] at h
  split at h
  ·cases h; exact (hb y (by simp)).2
  ·exact ih (fun z hz => hb z (by simp [hz])) h
mutual
theorem T.Qpm {b : List (Int × T)} (hb : ∀ x ∈ b, i64 x.1 ∧ x.2.ok) : ∀ t : T, t.ok → (t.subst b).ok
 | .mk k i n l, h => by
  simp only [T.subst]
  split
  ·split
   ·rename_i x hx; exact QlK hb hx
   ·exact h
  ·split
   ·exact ⟨h.1, h.2.1, h.2.2.1, Qdo hb l h.2.2.2⟩
   ·exact h
theorem Qdo {b : List (Int × T)} (hb : ∀ x ∈ b, i64 x.1 ∧ x.2.ok) : ∀ l : List T, oks l → oks (Xd b l)
 | [], h => h
 | t :: l, h => ⟨T.Qpm hb t h.1, Qdo hb l h.2⟩
end
def vT (v : Int) : T := .mk 1 v { data := #[] } []
def valsOf (b : List (Int × T)) (k : Nat) : List T := (nums k).map fun v => (vT v).subst b
def storeOf (b : List (Int × T)) (l : List It) : List G := l.map fun x => subG b x.atom
theorem ZE (b : List (Int × T)) (k : Nat) : valsOf b (k + 1) = valsOf b k ++ [(vT k).subst b] := by simp [valsOf, QgT]
theorem XO (b : List (Int × T)) (k : Nat) : (valsOf b k).length = k := by simp [valsOf, nums_length]
theorem Qcf (b : List (Int × T)) {l : List It} {k : Nat} (h : k < l.length) : storeOf b (l.take (k + 1)) = storeOf b (l.take k) ++ [subG b (l[k]).atom] := by
 rw [storeOf, storeOf, List.take_succ_eq_append_getElem h, List.map_append]; rfl
theorem YF (b : List (Int × T)) (l : List It) : (storeOf b l).length = l.length := List.length_map _
structure SmallC (b : List (Int × T)) (l : List It) : Prop where
 b1 : b.length ≤ 1000
 b2 : ∀ x ∈ b, x.2.nds ≤ 50
 b3 : ∀ x ∈ b, i64 x.1 ∧ x.2.ok
 l1 : l.length ≤ 7
 l2 : ∀ x ∈ l, ndsL x.atom.args ≤ 250
 l3 : ∀ x ∈ l, oks x.atom.args
theorem SmallC.vals {b : List (Int × T)} {l : List It} (H : SmallC b l) : ∀ k : Nat, ndsL (valsOf b k) ≤ k * 50
 | 0 => Nat.zero_le _
 | k + 1 => by
  rw [ZE, X6]
  have h1 := H.vals k
  have h2 := T.Qpe (b := b) (by omega : 1 ≤ 50) H.b2 (vT k)
  have h3 : (vT k).nds = 1 := rfl
  simp only [ndsL]
  rw [h3] at h2
  omega
theorem SmallC.store {b : List (Int × T)} {l : List It} (H : SmallC b l) : gsN (storeOf b l) ≤ 87507 := by
 have h1 : ∀ l : List It, (∀ x ∈ l, ndsL x.atom.args ≤ 250) → gsN (storeOf b l) ≤ l.length * 12501 := fun l => by
  induction l with
  | nil => intro _; exact Nat.zero_le _
  | cons x l ih =>
   intro h
   have h2 := ih fun y hy => h y (by simp [hy])
   have h3 := QbZ (b := b) (by omega : 1 ≤ 50) H.b2 x.atom.args
   have h4 := h x (by simp)
   have h5 : ndsL x.atom.args * 50 ≤ 250 * 50 := Nat.mul_le_mul_right _ h4
   show 1 + ndsL (Xd b x.atom.args) + gsN (storeOf b l) ≤ (l.length + 1) * 12501
   omega
 have h2 := h1 l H.l2
 have h3 := H.l1
 omega
theorem SmallC.QpC {b : List (Int × T)} {l : List It} (H : SmallC b l) : ∀ k : Nat, k ≤ 1000 → oks (valsOf b k)
 | 0, _ => trivial
 | k + 1, hk => by
  rw [ZE]
  exact Qay (H.QpC k (by omega)) ⟨T.Qpm H.b3 _ ⟨by unfold i64; omega, by unfold i64; omega, by decide, trivial⟩, trivial⟩
theorem SmallC.Qpi {b : List (Int × T)} {l : List It} (H : SmallC b l) : ∀ g ∈ storeOf b l, oks g.args := fun g hg => by
 obtain ⟨x, hx, rfl⟩ := List.mem_map.1 hg
 exact Qdo H.b3 _ (H.l3 x hx)
def Y9 (n : Int) (b : List (Int × T)) (l : List It) : Bool := decide (n < 0) || (decide (n > 100) || (!rightS b || l.any ZP))
def An.nil : An := ⟨false, [], []⟩
def ofC (n : Int) (b : List (Int × T)) (l : List It) (failed : Bool) : An × Int :=
 if Y9 n b l = true then (An.nil, 2) else if failed = true then (⟨true, [], []⟩, 0) else
 if (storeOf b l).any (fun g => !rightAtomB g) = true then (An.nil, 6) else
 if 6 < (Xi n (valsOf b n.toNat) (storeOf b l)).length then (An.nil, 15) else
 (⟨false, (Yo n ⟨valsOf b n.toNat, storeOf b l⟩ (Xi n (valsOf b n.toNat) (storeOf b l))).vals, (Yo n ⟨valsOf b n.toNat, storeOf b l⟩ (Xi n (valsOf b n.toNat) (storeOf b l))).store⟩, 0)
theorem Qn2 (n : Int) (b : List (Int × T)) (l : List It) (failed : Bool) (H : SmallC b l) (hbad : Y9 n b l = true) :
  Pure Tryz.prog 11 [.i n, .sl 5 (bavs b) none, .sl 3 (vs It.av l) none, .v (.bool failed)] (.tup [(ofC n b l failed).1.av, .i (ofC n b l failed).2]) := by
 intro h
 have e : ofC n b l failed = (An.nil, 2) := by rw [ofC, if_pos hbad]
 rw [e]
 have hl7 := H.l1
 have hz : ∀ own : AH, Frz (h ++ own) h.length (.tup [.agg [.v (.bool false), .v (.slice none 0 0), .v (.slice none 0 0)], .i 2]) (.tup [An.nil.av, .i 2]) := fun own =>
  .tup rfl (Xe (.agg rfl (Xe (.keep (.v _)) (Xe (.nil 4) (X3 (.nil 2))))) (X3 (.keep (.v _))))
 have c1 := Qa2 b (by have := H.b1; omega) (fun x hx => by have := H.b2 x hx; omega) H.b3
 have c2 := ZL l (by omega)
 by_cases k1 : n < 0
 ·refine Qh Tryz.func11 rfl Tryz.call11 Tryz.ntmps11 (congrArg Array.toList Tryz.results11) (by simp) ?_
  repeat (first | (((with_reducible refine Qa fun K E hK hE => ?_)); simp -implicitDefEqProofs only [Qe, Qf, OpW, aop, undef, AS.ev, Qv, AV.QoY, ↓reduceIte, QO, QH, aBin, XA, XV, ti32, zi32, sp32, k1, seval]) | (with_reducible (first | refine Qd fun K hK => ?_ | refine Qj ?_ | refine Qq ?_)) | ((with_reducible refine hK _ ?_); clear hK) | (refine Qg rfl ?_; simp only [↓reduceIte]))
  simp -implicitDefEqProofs only [Qe, ↓reduceIte, QA, QB, ti32, List.mapM_cons, List.mapM_nil, Option.pure_def, Option.bind_eq_bind, QD, Ql, Qr, QpW, seval]
  exact Qc (htake _ _) (hz _) ⟨rfl, rfl⟩
 by_cases k2 : n > 100
 ·refine Qh Tryz.func11 rfl Tryz.call11 Tryz.ntmps11 (congrArg Array.toList Tryz.results11) (by simp) ?_
  repeat (first | (((with_reducible refine Qa fun K E hK hE => ?_)); simp -implicitDefEqProofs only [Qe, Qf, OpW, aop, undef, AS.ev, Qv, AV.QoY, ↓reduceIte, QO, QH, aBin, XA, XV, ti32, zi32, sp32, k1, k2, seval]) | (with_reducible (first | refine Qd fun K hK => ?_ | refine Qj ?_ | refine Qq ?_)) | ((with_reducible refine hK _ ?_); clear hK) | (refine Qg rfl ?_; simp only [↓reduceIte]))
  simp -implicitDefEqProofs only [Qe, ↓reduceIte, QA, QB, ti32, List.mapM_cons, List.mapM_nil, Option.pure_def, Option.bind_eq_bind, QD, Ql, Qr, QpW, seval]
  exact Qc (htake _ _) (hz _) ⟨rfl, rfl⟩
 cases k3 : rightS b with
 | false =>
  rw [k3] at c1
  refine Qh Tryz.func11 rfl Tryz.call11 Tryz.ntmps11 (congrArg Array.toList Tryz.results11) (by simp) ?_
  repeat (first | ((first | (with_reducible (first | refine Qa fun K E hK hE => ?_ | refine Qp c1 ?_))); simp -implicitDefEqProofs only [Qe, Qf, OpW, QK, aop, undef, AS.ev, Qv, AV.QoY, ↓reduceIte, QO, QH, aBin, XA, XV, ti32, zi32, sp32, k1, k2, seval]) | (with_reducible (first | refine Qd fun K hK => ?_ | refine Qj ?_ | refine Qq ?_)) | ((with_reducible refine hK _ ?_); clear hK) | (refine Qg rfl ?_; simp only [↓reduceIte]))
  simp -implicitDefEqProofs only [Qe, ↓reduceIte, QA, QB, ti32, List.mapM_cons, List.mapM_nil, Option.pure_def, Option.bind_eq_bind, QD, Ql, Qr, QpW, seval]
  exact Qc (htake _ _) (hz _) ⟨rfl, rfl⟩
 | true =>
  rw [k3] at c1
  have k4 : l.any ZP = true := by simpa [Y9, k1, k2, k3] using hbad
  rw [k4] at c2
  refine Qh Tryz.func11 rfl Tryz.call11 Tryz.ntmps11 (congrArg Array.toList Tryz.results11) (by simp) ?_
  repeat (first | ((first | (with_reducible (first | refine Qa fun K E hK hE => ?_ | refine Qp c1 ?_ | refine Qp c2 ?_))); simp -implicitDefEqProofs only [Qe, Qf, OpW, QK, aop, undef, AS.ev, Qv, AV.QoY, ↓reduceIte, QO, QH, aBin, XA, XV, ti32, zi32, sp32, k1, k2, seval]) | (with_reducible (first | refine Qd fun K hK => ?_ | refine Qj ?_ | refine Qq ?_)) | ((with_reducible refine hK _ ?_); clear hK) | (refine Qg rfl ?_; simp only [↓reduceIte]))
  simp -implicitDefEqProofs only [Qe, ↓reduceIte, QA, QB, ti32, List.mapM_cons, List.mapM_nil, Option.pure_def, Option.bind_eq_bind, QD, Ql, Qr, QpW, seval]
  exact Qc (htake _ _) (hz _) ⟨rfl, rfl⟩
theorem QgH (n : Int) (b : List (Int × T)) (l : List It) (H : SmallC b l) (hbad : Y9 n b l = false) :
  Pure Tryz.prog 11 [.i n, .sl 5 (bavs b) none, .sl 3 (vs It.av l) none, .v (.bool true)] (.tup [(ofC n b l true).1.av, .i (ofC n b l true).2]) := by
 intro h
 have e : ofC n b l true = (⟨true, [], []⟩, 0) := by rw [ofC, if_neg (by rw [hbad]; decide), if_pos rfl]
 rw [e]
 have hl7 := H.l1
 have hz : ∀ own : AH, Frz (h ++ own) h.length (.tup [.agg [.v (.bool true), .v (.slice none 0 0), .v (.slice none 0 0)], .i 0]) (.tup [(An.mk true [] []).av, .i 0]) := fun own =>
  .tup rfl (Xe (.agg rfl (Xe (.keep (.v _)) (Xe (.nil 4) (X3 (.nil 2))))) (X3 (.keep (.v _))))
 have c1 := Qa2 b (by have := H.b1; omega) (fun x hx => by have := H.b2 x hx; omega) H.b3
 have c2 := ZL l (by omega)
 simp only [Y9, Bool.or_eq_false_iff, decide_eq_false_iff_not, Bool.not_eq_false'] at hbad
 obtain ⟨k1, k2, k3, k4⟩ := hbad
 rw [k3] at c1
 rw [k4] at c2
 refine Qh Tryz.func11 rfl Tryz.call11 Tryz.ntmps11 (congrArg Array.toList Tryz.results11) (by simp) ?_
 repeat (first | ((first | (with_reducible (first | refine Qa fun K E hK hE => ?_ | refine Qp c1 ?_ | refine Qp c2 ?_))); simp -implicitDefEqProofs only [Qe, Qf, OpW, QK, aop, undef, AS.ev, Qv, AV.QoY, ↓reduceIte, QO, QH, aBin, XA, XV, ti32, zi32, sp32, k1, k2, seval]) | (with_reducible (first | refine Qd fun K hK => ?_ | refine Qj ?_ | refine Qn ?_ | refine Qb ?_ | refine Qq ?_)) | ((with_reducible refine hK _ ?_); clear hK) | (refine Qg rfl ?_; simp only [↓reduceIte, QpQ]))
 simp -implicitDefEqProofs only [Qe, ↓reduceIte, QA, QB, ti32, List.mapM_cons, List.mapM_nil, Option.pure_def, Option.bind_eq_bind, QD, Ql, Qr, QpW, seval]
 exact Qc (htake _ _) (hz _) ⟨rfl, rfl⟩
end Go.Proofs.YtniljpjjnmkoaaaGreatDoor.Ab

