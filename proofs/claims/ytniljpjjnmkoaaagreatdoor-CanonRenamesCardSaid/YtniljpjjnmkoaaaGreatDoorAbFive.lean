/-
  An abstract program logic, contracts of functions, and laws of terms and rules (part 5).
-/
import Derived.Test.YtniljpjjnmkoaaaGreatDoorAbFour
import Derived.Test.YtniljpjjnmkoaaaGreatDoorAbThree
import Derived.Test.YtniljpjjnmkoaaaGreatDoorAbTwo
import Derived.Lib.ItoaNum
import Derived.Lib.ItoaMem
import Derived.Lib.AtoiTie
import Derived.RecoverIn
set_option linter.unusedVariables false
set_option linter.unusedSimpArgs false
set_option maxHeartbeats 4000000
set_option maxRecDepth 4000
namespace Go.Proofs.YtniljpjjnmkoaaaGreatDoor.Ab
open Go.Proofs
theorem QhI (t : T) : (XT t).Nodup := by
 have key : ∀ (n : Nat) (l : List T), ndsL l ≤ n → ∀ s : List Int, s.Nodup → (walks YM s l).2.Nodup := by
  intro n
  induction n with
  | zero =>
   intro l hl s hs
   cases l with
   | nil => exact hs
   | cons t l => simp only [ndsL] at hl; have := T.Qo1 t; omega
  | succ n ih =>
   intro l hl s hs
   cases l with
   | nil => exact hs
   | cons t l =>
    simp only [ndsL] at hl
    have hnd := T.Qo1 t
    have h1 : (T.walk YM s t).2.Nodup := by
     rw [T.walk_eq]
     split
     ·simp only [YM]
      split
      ·exact hs
      ·rename_i hm
       exact List.nodup_append.2 ⟨hs, by simp, fun a ha b hb => by
        simp only [List.mem_singleton] at hb
        subst hb
        exact fun e => hm (e ▸ ha)⟩
     ·exact ih _ (by have := Zf t; omega) s hs
    simp only [walks]
    split
    ·exact ih l (by omega) _ h1
    ·exact h1
 exact key _ [t] (Nat.le_refl _) [] List.nodup_nil
theorem YU (n : Int) (vals : List T) (store : List G) : (Xi n vals store).Nodup := (QhI _).filter _
theorem QhL (n : Int) (b : List (Int × T)) (l : List It) (H : SmallC b l) (hbad : Y9 n b l = false) :
  Pure Tryz.prog 11 [.i n, .sl 5 (bavs b) none, .sl 3 (vs It.av l) none, .v (.bool false)] (.tup [(ofC n b l false).1.av, .i (ofC n b l false).2]) := by
 intro h
 have hl7 := H.l1
 have hb1 := H.b1
 have hz : ∀ (e : Int) (own : AH), Frz (h ++ own) h.length (.tup [.agg [.v (.bool false), .v (.slice none 0 0), .v (.slice none 0 0)], .i e]) (.tup [An.nil.av, .i e]) := fun e own =>
  .tup rfl (Xe (.agg rfl (Xe (.keep (.v _)) (Xe (.nil 4) (X3 (.nil 2))))) (X3 (.keep (.v _))))
 have c1 := Qa2 b (by omega) (fun x hx => by have := H.b2 x hx; omega) H.b3
 have c2 := ZL l (by omega)
 have hbad' := hbad
 simp only [Y9, Bool.or_eq_false_iff, decide_eq_false_iff_not, Bool.not_eq_false'] at hbad'
 obtain ⟨k1, k2, k3, k4⟩ := hbad'
 rw [k3] at c1
 rw [k4] at c2
 obtain ⟨N, rfl⟩ : ∃ N : Nat, n = (N : Int) := ⟨n.toNat, by omega⟩
 have hN : N ≤ 100 := by omega
 have eO : ofC N b l false = (if (storeOf b l).any (fun g => !rightAtomB g) = true then (An.nil, 6) else
  if 6 < (Xi N (valsOf b N) (storeOf b l)).length then (An.nil, 15) else
  (⟨false, (Yo N ⟨valsOf b N, storeOf b l⟩ (Xi N (valsOf b N) (storeOf b l))).vals, (Yo N ⟨valsOf b N, storeOf b l⟩ (Xi N (valsOf b N) (storeOf b l))).store⟩, 0)) := by
  rw [ofC, if_neg (by rw [hbad]; decide), if_neg (by decide), Int.toNat_natCast]
 refine Qh Tryz.func11 rfl Tryz.call11 Tryz.ntmps11 (congrArg Array.toList Tryz.results11) (by simp) ?_
 repeat (first | ((first | (with_reducible (first | refine Qa fun K E hK hE => ?_ | refine Qp c1 ?_ | refine Qp c2 ?_))); simp -implicitDefEqProofs only [Qe, Qf, OpW, QK, aop, undef, AS.ev, Qv, AV.QoY, ↓reduceIte, aBin, zi32, zi76, k1, k2, seval]) | (with_reducible (first | refine Qd fun K hK => ?_ | refine Qi ?_ | refine Qn ?_ | refine Qb ?_)) | ((with_reducible refine hK _ ?_); clear hK) | (refine Qg rfl ?_; simp only [↓reduceIte, QpQ]))
 refine ZF (h.length + 1) 76 2 4 (.grow 41 4 0) (.inr ⟨_, rfl⟩) [.agg [.v (.slice none 0 0), .v (.slice none 0 0)]] [.agg [.sl 4 [] (some (h.length + 2)), .v (.slice none 0 0)]] 0 (by rw [hget]; rfl) rfl (by simp [flat, AV.cells]) (by simp [AV.cells]) ?_
 refine ZF (h.length + 1) 76 2 2 (.grow 45 2 0) (.inr ⟨_, rfl⟩) [.agg [.sl 4 [] (some (h.length + 2)), .v (.slice none 0 0)]] [.agg [.sl 4 [] (some (h.length + 2)), .sl 2 [] (some (h.length + 3))]] 1 (by rw [List.getElem?_set_self (by simp)]) rfl (by simp [flat, AV.cells]) (by simp [AV.cells]) ?_
 obtain ⟨I, hI⟩ : ∃ I : Nat → AS → Prop, I = fun m' s => ∃ (k : Nat) (M : AH), m' = N - k ∧ k ≤ N ∧ s.tm 0 = .i N ∧ s.tm 1 = .sl 5 (bavs b) none ∧ s.tm 2 = .sl 3 (vs It.av l) none ∧ s.tm 8 = .ptr h.length 0 0 ∧ s.tm 11 = .ptr (h.length + 1) 0 0 ∧ s.tm 36 = .i N ∧ s.tm 37 = .i k ∧
   s.h = h ++ ([.cells 32 3 [.agg [.v (.bool false), .v (.slice none 0 0), .v (.slice none 0 0)]], .cells 76 2 [.agg [.sl 4 (avs (valsOf b k)) (some (h.length + 2)), .sl 2 [] (some (h.length + 3))]], .grow 41 4 k, .grow 45 2 0] ++ M) := ⟨_, rfl⟩; refine QI I ?_ (m := N) ?_
 ·intro m' s hs; rw [hI] at hs; obtain ⟨tm, hp⟩ := s; dsimp only at hs; obtain ⟨k, M, rfl, hk, t0, t1, t2, t8, t11, t36, t37, rfl⟩ := hs
  by_cases hlt : k < N
  ·have cv := Qg0 (k : Int)
   have ca := apply_pure b (by omega) 1 (by omega) (vT k) (Nat.le_refl _)
   have hb1 : k + 1 ≤ maxLen := by simp only [maxLen]; omega
   have hb2 : (k + 1) * 56 ≤ 140737488355328 := by omega
   have hvl := XO b k
   change Pure _ _ _ (vT k).av at cv
   repeat (first | ((first | (with_reducible (first | refine Qa fun K E hK hE => ?_ | refine Qk fun K E hK hE => ?_ | refine Qz cv ?_ | refine Qz ca ?_)) | (refine QG (id := 10) [(0, 0), (1, 0), (2, 0), (3, 0), (4, 1), (5, 1), (6, 0), (7, 2), (8, 0), (9, 2)] mixed (by kernel_rfl) fun K hK => ?_)); simp -implicitDefEqProofs only [Qe, Qf, OpW, aop, undef, AS.ev, AV.QoY, ↓reduceIte, Qm, QA, QB, QO, QH, aBin, QM, Xr, XS, ti29, ei29, ai29, zi41, Qls, t1, t11, t36, t37, hlt, hvl, hb1, hb2, seval]) | (with_reducible (first | refine Qd fun K hK => ?_ | refine Qi ?_ | refine Qn ?_ | refine Qb ?_ | refine Qo ?_)) | ((with_reducible refine hK _ ?_); clear hK) | (refine Qg rfl ?_; simp only [↓reduceIte]))
   refine QV.mk (m' := N - (k + 1)) (by omega) ?_
   rw [hI]
   refine ⟨k + 1, M, rfl, hlt, t0, t1, t2, t8, t11, t36, ?_, ?_⟩
   ·simp only [upd, ↓reduceIte]
    rw [QP (by omega)]
   ·rw [ZE, Ye, Zi]; simp
  ·have hkN : N = k := by omega
   subst hkN
   repeat (first | (((with_reducible refine Qa fun K E hK hE => ?_)); simp -implicitDefEqProofs only [Qe, Qf, OpW, aop, AS.ev, ↓reduceIte, aBin, aLen, goInt, un24, t2, t36, t37, hlt, QR, seval]) | (with_reducible (first | refine Qd fun K hK => ?_ | refine Qi ?_ | refine QC ?_ | refine Qb ?_ | refine Qw ?_ | refine Qy ?_)) | ((with_reducible refine hK _ ?_); clear hK) | (clear hK; (with_reducible refine hK _ ?_); clear hK) | (refine Qg rfl ?_; simp only [↓reduceIte, QpQ]))
   obtain ⟨I, hI⟩ : ∃ I : Nat → AS → Prop, I = fun m' s => ∃ (k : Nat) (M : AH), m' = l.length - k ∧ k ≤ l.length ∧ (∀ g ∈ storeOf b (l.take k), rightAtomB g = true) ∧ s.tm 0 = .i N ∧ s.tm 1 = .sl 5 (bavs b) none ∧ s.tm 8 = .ptr h.length 0 0 ∧ s.tm 11 = .ptr (h.length + 1) 0 0 ∧ s.tm 50 = .sl 3 (vs It.av l) none ∧ s.tm 51 = .i l.length ∧ s.tm 52 = .i k ∧
     s.h = h ++ ([.cells 32 3 [.agg [.v (.bool false), .v (.slice none 0 0), .v (.slice none 0 0)]], .cells 76 2 [.agg [.sl 4 (avs (valsOf b N)) (some (h.length + 2)), .sl 2 (vs G.atom (storeOf b (l.take k))) (some (h.length + 3))]], .grow 41 4 N, .grow 45 2 k] ++ M) := ⟨_, rfl⟩; refine QI I ?_ (m := l.length) ?_
   ·intro m' s hs; rw [hI] at hs; obtain ⟨tm, hp⟩ := s; dsimp only at hs; obtain ⟨k, M, rfl, hk, hall, t0, t1, t8, t11, t50, t51, t52, rfl⟩ := hs
    by_cases hlt : k < l.length
    ·have hx := List.getElem_mem hlt
     have h50 := H.l2 _ hx
     have ca : Pure Tryz.prog 38 [.sl 5 (bavs b) none, .agg [.v (.string (l[k]).atom.name), .sl 4 (avs (l[k]).atom.args) none]] (subG b (l[k]).atom).atom := Qd2 b (by omega) (l[k]).atom (by omega)
     have cr := YG (subG b (l[k]).atom)
     have hsl : (storeOf b (l.take k)).length = k := by rw [YF, List.length_take]; omega
     have hb1 : k + 1 ≤ maxLen := by simp only [maxLen]; omega
     have hb2 : (k + 1) * 40 ≤ 140737488355328 := by omega
     cases hr : rightAtomB (subG b (l[k]).atom) with
     | false =>
      rw [hr] at cr
      have e : ofC N b l false = (An.nil, 6) := by
       rw [eO, if_pos]
       rw [List.any_eq_true]
       exact ⟨_, List.mem_map.2 ⟨_, hx, rfl⟩, by rw [hr]; rfl⟩
      repeat (first | ((first | (with_reducible (first | refine Qa fun K E hK hE => ?_ | refine Qp ca ?_ | refine Qp cr ?_))); simp -implicitDefEqProofs only [Qe, Qf, OpW, QK, aop, undef, AS.ev, AV.QoY, ↓reduceIte, Qm, QA, QB, QO, QH, Qt, aBin, XA, XV, ei24, ti32, zi32, sp32, ti45, zi45, ti48, Qdy, zi48, t1, t8, t50, t51, t52, hlt, QR, XR It.av hlt, It.cells, It.isAgg, QT, Xa, seval]) | (with_reducible (first | refine Qd fun K hK => ?_ | refine Qi ?_ | refine Qj ?_ | refine Qn ?_ | refine Qb ?_ | refine Qq ?_ | refine Qs ?_)) | ((with_reducible refine hK _ ?_); clear hK) | (refine Qg rfl ?_; simp only [↓reduceIte]))
      simp -implicitDefEqProofs only [Qe, ↓reduceIte, QA, QB, ti32, t8, List.mapM_cons, List.mapM_nil, Option.pure_def, Option.bind_eq_bind, QD, Ql, Qr, QpW, seval]
      rw [e]
      exact Qc (htake _ _) (hz _ _) ⟨rfl, rfl⟩
     | true =>
      rw [hr] at cr
      repeat (first | ((first | (with_reducible (first | refine Qa fun K E hK hE => ?_ | refine Qk fun K E hK hE => ?_ | refine Qp ca ?_ | refine Qp cr ?_))); simp -implicitDefEqProofs only [Qe, Qf, OpW, QK, aop, undef, AS.ev, AV.QoY, ↓reduceIte, Qm, QA, QB, QO, QH, Qt, aBin, QM, Xr, XS, ei24, ti30, ei30, ai30, ti45, zi45, ti48, Qdy, zi48, Qly, t1, t11, t50, t51, t52, hlt, QR, XR It.av hlt, It.cells, It.isAgg, QT, Xa, hsl, hb1, hb2, seval]) | (with_reducible (first | refine Qd fun K hK => ?_ | refine Qi ?_ | refine Qn ?_ | refine Qb ?_ | refine Qo ?_)) | ((with_reducible refine hK _ ?_); clear hK) | (refine Qg rfl ?_; simp only [↓reduceIte, QpQ]))
      refine QV.mk (m' := l.length - (k + 1)) (by omega) ?_
      rw [hI]
      refine ⟨k + 1, M ++ [.cells 48 3 [(l[k]).av], .cells 45 2 [(subG b (l[k]).atom).atom]], rfl, hlt, ?_, t0, t1, t8, t11, t50, t51, ?_, ?_⟩
      ·rw [Qcf b hlt]
       intro g hg
       rcases List.mem_append.1 hg with hg | hg
       ·exact hall g hg
       ·rw [List.mem_singleton] at hg; subst hg; exact hr
      ·simp only [upd, ↓reduceIte]
       rw [QP (by omega)]
      ·rw [Qcf b hlt, Qdr, Qn5]; simp
    ·have hkl : k = l.length := by omega
     subst hkl
     rw [List.take_length] at hall ⊢
     have hV := H.vals N
     have hS := H.store
     have hoth : Xf Tryz.prog 39 [.agg [.sl 4 (avs (valsOf b N)) (some (h.length + 2)), .sl 2 (vs G.atom (storeOf b l)) (some (h.length + 3))], .i N] (h ++ AB.cells 32 3 [AV.agg [AV.v (.bool false), AV.v (.slice none 0 0), AV.v (.slice none 0 0)]] :: AB.cells 76 2 [AV.agg [AV.sl 4 (avs (valsOf b N)) (some (h.length + 2)), AV.sl 2 (vs G.atom (storeOf b l)) (some (h.length + 3))]] :: AB.grow 41 4 N :: AB.grow 45 2 l.length :: M) fun o h' => o = .ret (.sl 1 (ints (Xi N (valsOf b N) (storeOf b l))) none) ∧ h' = h ++ AB.cells 32 3 [AV.agg [AV.v (.bool false), AV.v (.slice none 0 0), AV.v (.slice none 0 0)]] :: AB.cells 76 2 [AV.agg [AV.sl 4 (avs (valsOf b N)) (some (h.length + 2)), AV.sl 2 (vs G.atom (storeOf b l)) (some (h.length + 3))]] :: AB.grow 41 4 (valsOf b N ++ argsG (storeOf b l)).length :: AB.grow 45 2 l.length :: M := by
      have := QhA (valsOf b N) (storeOf b l) N (some (h.length + 3)) (h.length + 2) (h ++ AB.cells 32 3 [AV.agg [AV.v (.bool false), AV.v (.slice none 0 0), AV.v (.slice none 0 0)]] :: AB.cells 76 2 [AV.agg [AV.sl 4 (avs (valsOf b N)) (some (h.length + 2)), AV.sl 2 (vs G.atom (storeOf b l)) (some (h.length + 3))]] :: AB.grow 41 4 N :: AB.grow 45 2 l.length :: M) (by simp <;> omega) (by omega) (H.QpC N (by omega)) H.Qpi
      rw [XO, Qfl (by rw [hget]; rfl)] at this
      rwa [hs, hset] at this
     have hbadn : ¬ (storeOf b l).any (fun g => !rightAtomB g) = true := by
      rw [List.any_eq_true]
      rintro ⟨g, hg, hq⟩
      rw [hall g hg] at hq
      cases hq
     rw [if_neg hbadn] at eO
     by_cases h6 : 6 < (Xi N (valsOf b N) (storeOf b l)).length
     ·rw [if_pos h6] at eO
      have h6' : ((Xi N (valsOf b N) (storeOf b l)).length : Int) > 6 := by omega
      repeat (first | ((first | (with_reducible (first | refine Qa fun K E hK hE => ?_ | refine FunW.ret (FunW.call hoth) ?_))); simp -implicitDefEqProofs only [Qe, Qf, OpW, QK, aop, undef, AS.ev, AV.QoY, ↓reduceIte, QA, QB, QO, QH, aBin, XA, XV, aLen, goInt, ti32, zi32, sp32, un49, ti76, t0, t8, t11, t51, t52, hlt, h6', seval]) | (with_reducible (first | refine Qd fun K hK => ?_ | refine Qj ?_ | refine QC ?_ | refine Qb ?_ | refine Qq ?_ | refine Qw ?_ | refine Qy ?_)) | ((with_reducible refine hK _ ?_); clear hK) | (clear hK; (with_reducible refine hK _ ?_); clear hK) | (refine Qg rfl ?_; simp only [↓reduceIte, QpQ]))
      simp -implicitDefEqProofs only [Qe, ↓reduceIte, QA, QB, ti32, t8, List.mapM_cons, List.mapM_nil, Option.pure_def, Option.bind_eq_bind, QD, Ql, Qr, QpW, seval]
      rw [eO]
      exact Qc (htake _ _) (hz _ _) ⟨rfl, rfl⟩
     ·rw [if_neg h6] at eO
      have h6' : ¬ ((Xi N (valsOf b N) (storeOf b l)).length : Int) > 6 := by omega
      have cl := QiW ⟨valsOf b N, storeOf b l⟩ N (Xi N (valsOf b N) (storeOf b l)) (by omega) (by omega) (YU _ _ _) (by simp only; omega) (by simp only; omega) (by simp only; rw [YF]; omega)
      have hw : WkL [AV.agg [.sl 4 (avs (valsOf b N)) (some (h.length + 2)), .sl 2 (vs G.atom (storeOf b l)) (some (h.length + 3))], .i N, .sl 1 (ints (Xi N (valsOf b N) (storeOf b l))) none] [(Ct.mk (valsOf b N) (storeOf b l)).av, .i N, .sl 1 (ints (Xi N (valsOf b N) (storeOf b l))) none] :=
       .cons (.agg (.cons (.sl rfl (fun y hy => by rw [YO, List.mem_map] at hy; obtain ⟨t, _, rfl⟩ := hy; exact T.cells4 t) (.refl _)) (.cons (.sl rfl (fun y hy => by simp only [vs, List.mem_map] at hy; obtain ⟨t, _, rfl⟩ := hy; rfl) (.refl _)) .nil))) (.cons (.refl _) (.cons (.refl _) .nil))
      have cl' := Yi hw cl
      repeat (first | ((first | (with_reducible (first | refine Qa fun K E hK hE => ?_ | refine FunW.ret (FunW.call hoth) ?_ | refine Qp cl' ?_))); simp -implicitDefEqProofs only [Qe, Qf, OpW, QK, aop, undef, AS.ev, AV.QoY, ↓reduceIte, QA, QB, QO, QH, aBin, aLen, goInt, ti32, un49, ti76, t0, t8, t11, t51, t52, hlt, h6', An.cells, An.isAgg, seval]) | (with_reducible (first | refine Qd fun K hK => ?_ | refine Qj ?_ | refine Qn ?_ | refine QC ?_ | refine Qb ?_ | refine Qw ?_ | refine Qy ?_)) | ((with_reducible refine hK _ ?_); clear hK) | (clear hK; (with_reducible refine hK _ ?_); clear hK) | (refine Qg rfl ?_; simp only [↓reduceIte, QpQ]))
      simp -implicitDefEqProofs only [Qe, ↓reduceIte, QA, QB, ti32, t8, An.cells, An.isAgg, List.mapM_cons, List.mapM_nil, Option.pure_def, Option.bind_eq_bind, QD, Ql, Qr, QpW, seval]
      rw [eO]
      exact Qc (htake _ _) (.tup rfl (Xe (.keep (An.below _ _)) (X3 (.keep (.v _))))) ⟨rfl, rfl⟩
   ·rw [hI]
    exact ⟨0, M, by omega, Nat.zero_le _, by simp [storeOf], t0, t1, t8, t11, rfl, by simp only [upd, ↓reduceIte, Nat.reduceEqDiff], rfl, by simp [storeOf, vs]⟩
 ·rw [hI]
  refine ⟨0, [], by omega, Nat.zero_le _, rfl, rfl, rfl, rfl, rfl, rfl, rfl, ?_⟩
  simp [valsOf, nums, avs]
theorem QkO (n : Int) : cmpI n n = 0 := by simp [cmpI]
theorem QaU : ∀ l : List UInt8, Op.bytesLess l l = false
 | [] => rfl
 | a :: l => by simp [Op.bytesLess, QaU l]
theorem QkU (s : ByteArray) : cmpS s s = 0 := by simp [cmpS, QaU]
mutual
theorem QgJ : ∀ t : T, cmpT t t = 0
 | .mk k i n l => by
  have h0 : ((0 : Int) != 0) = false := rfl
  simp only [cmpT, QkO, QkU, Qgd l, h0, QpQ, ↓reduceIte, or3, orL, ite_self]
theorem Qgd : ∀ l : List T, cmpL l l = 0
 | [] => by simp [cmpL]
 | t :: l => by simp [cmpL, QgJ t, Qgd l]
end
mutual
def T.dep : T → Nat
 | .mk k _ _ l => 1 + (if k = 2 then deps l else 0)
def deps : List T → Nat
 | [] => 0
 | t :: l => max t.dep (deps l)
end
theorem T.QpB (t : T) : t.dep = 1 + deps t.uses := by
 cases t with | mk k i n l =>
 show T.dep (.mk k i n l) = 1 + deps (if k = 2 then l else [])
 simp only [T.dep]
 by_cases h : k = 2
 ·simp [h]
 ·simp [h, deps]
theorem QcW : ∀ l r : List T, deps (l ++ r) = max (deps l) (deps r)
 | [], r => by simp [deps]
 | t :: l, r => by simp only [Qqe, deps, QcW l r]; omega
theorem Qd5 {l : List T} {k : Nat} (h : k < l.length) : deps (l.take (k + 1)) = max (deps (l.take k)) (l[k]).dep := by
 rw [List.take_succ_eq_append_getElem h, QcW]; simp [deps]
mutual
theorem T.Qpk : ∀ t : T, t.dep ≤ t.size
 | .mk k i n l => by
  simp only [T.dep, T.size]
  have := Qei l
  split <;> omega
theorem Qei : ∀ l : List T, deps l ≤ sizes l
 | [] => Nat.le_refl _
 | t :: l => by
  simp only [deps, sizes]
  have := T.Qpk t
  have := Qei l
  omega
end
theorem Z9 (t : T) : Pure Tryz.prog 85 [t.av] (.sl 4 (avs t.uses) none) := by
 intro h
 refine Qh Tryz.func85 rfl Tryz.call85 Tryz.ntmps85 (congrArg Array.toList Tryz.results85) (by simp) ?_
 by_cases hk : t.kind = 2
 ·have hb : (t.kind == 2) = true := by simpa using hk
  repeat (first | (((with_reducible refine Qa fun K E hK hE => ?_)); simp -implicitDefEqProofs only [Qe, Qf, OpW, aop, undef, AS.ev, Qv, AV.QoY, ↓reduceIte, Qm, QA, QB, aBin, ti3, ti29, QX, Xc, hb, seval]) | (with_reducible (first | refine Qd fun K hK => ?_ | refine Qj ?_ | refine Qq ?_)) | ((with_reducible refine hK _ ?_); clear hK) | (refine Qg rfl ?_; simp only [↓reduceIte]))
  simp only [QD, Ql, Qr, upd, ↓reduceIte, QpS, QpW]
  refine Qc (htake _ _) (.keep (X0 _ _)) ⟨by rw [T.uses, if_pos hk], rfl⟩
 ·have hb : (t.kind == 2) = false := by simpa using hk
  repeat (first | (((with_reducible refine Qa fun K E hK hE => ?_)); simp -implicitDefEqProofs only [Qe, Qf, OpW, aop, undef, AS.ev, Qv, AV.QoY, ↓reduceIte, Qm, QA, QB, aBin, ti3, QX, hb, seval]) | (with_reducible (first | refine Qd fun K hK => ?_ | refine Qj ?_ | refine Qn ?_ | refine Qb ?_)) | ((with_reducible refine hK _ ?_); clear hK) | (refine Qg rfl ?_; simp only [↓reduceIte, QpQ]))
  simp only [QD, Ql, Qr, upd, ↓reduceIte, QpS, QpW]
  refine Qc (htake _ _) (.nil 4) ⟨by rw [T.uses, if_neg hk]; rfl, rfl⟩
theorem Qk5 {t : T} {k : Nat} (h : k < t.uses.length) : (t.uses[k]).size < t.size := by
 have h1 := Qah h
 have h2 := Qbx t.uses (k + 1)
 have h3 := T.size_eq t
 omega
theorem Qck (n : Nat) : ∀ t : T, t.size ≤ n → n ≤ 1000000 → Pure Tryz.prog 81 [t.av] (.i (t.size : Nat)) := by
 induction n with
 | zero => intro t h; have := size_pos t; omega
 | succ n ih =>
  intro t hn hb h
  have hsz := T.size_eq t
  have hll := Qag t.uses
  have c0 := Z9 t
  refine Qh Tryz.func81 rfl Tryz.call81 Tryz.ntmps81 (congrArg Array.toList Tryz.results81) (by simp) ?_
  repeat (first | ((first | (with_reducible (first | refine Qa fun K E hK hE => ?_ | refine Qp c0 ?_))); simp -implicitDefEqProofs only [Qe, Qf, OpW, QK, aop, undef, AS.ev, Qv, AV.QoY, ↓reduceIte, QA, QB, ti41, seval]) | (with_reducible (first | refine Qd fun K hK => ?_ | refine Qi ?_)) | ((with_reducible refine hK _ ?_); clear hK))
  obtain ⟨I, hI⟩ : ∃ I : Nat → AS → Prop, I = fun m' s => ∃ (k : Nat) (L : AH), m' = t.uses.length - k ∧ k ≤ t.uses.length ∧ s.tm 3 = .i ((1 + sizes (t.uses.take k) : Nat) : Int) ∧ s.tm 4 = .sl 4 (avs t.uses) none ∧ s.tm 5 = .i k ∧ s.h = h ++ L := ⟨_, rfl⟩; refine QI I ?_ (m := t.uses.length) ?_
  ·intro m' s hs; rw [hI] at hs; obtain ⟨tm, hp⟩ := s; dsimp only at hs; obtain ⟨k, L, rfl, hk, t3, t4, t5, rfl⟩ := hs
   by_cases hlt : k < t.uses.length
   ·have hts := Qah hlt
    have htl := Qbx t.uses (k + 1)
    have c := ih t.uses[k] (by have := Qk5 hlt; omega) (by omega)
    repeat (first | ((first | (with_reducible (first | refine Qa fun K E hK hE => ?_ | refine Qk fun K E hK hE => ?_ | refine Qp c ?_))); simp -implicitDefEqProofs only [Qe, Qf, OpW, QK, aop, AS.ev, ↓reduceIte, QA, QB, Qt, aBin, aLen, goInt, ei29, un29, ti41, hlt, t3, t4, t5, Q3 hlt, seval]) | (with_reducible (first | refine Qd fun K hK => ?_ | refine Qi ?_ | refine Qn ?_ | refine Qb ?_ | refine Qo ?_)) | ((with_reducible refine hK _ ?_); clear hK) | (refine Qg rfl ?_; simp only [↓reduceIte]))
    refine QV.mk (m' := t.uses.length - (k + 1)) (by omega) ?_
    rw [hI]
    refine ⟨k + 1, _, rfl, hlt, ?_, t4, ?_, rfl⟩
    ·simp only [upd, ↓reduceIte, Nat.reduceEqDiff]
     rw [Xp (by omega)]
     congr 2; omega
    ·simp only [upd, ↓reduceIte]
     rw [QP (by omega)]
   ·have hkl : k = t.uses.length := by omega
    repeat (first | (((with_reducible refine Qa fun K E hK hE => ?_)); simp -implicitDefEqProofs only [Qe, Qf, OpW, aop, AS.ev, ↓reduceIte, aBin, aLen, goInt, un29, hlt, t3, t4, t5, seval]) | (with_reducible (first | refine Qd fun K hK => ?_ | refine Qj ?_ | refine QC ?_ | refine Qb ?_ | refine Qw ?_ | refine Qy ?_)) | ((with_reducible refine hK _ ?_); clear hK) | (clear hK; (with_reducible refine hK _ ?_); clear hK) | (refine Qg rfl ?_; simp only [↓reduceIte, QpQ]))
    simp only [QD, Ql, Qr, upd, ↓reduceIte, QpS, QpW]
    refine Qc (htake _ _) (.keep (.v _)) ⟨?_, rfl⟩
    rw [hkl, List.take_length, hsz]
  ·rw [hI]
   exact ⟨0, [.cells 41 4 [t.av]], by omega, Nat.zero_le _, rfl, rfl, rfl, rfl⟩
theorem Qfo (n : Nat) : ∀ t : T, t.size ≤ n → n ≤ 1000000 → Pure Tryz.prog 82 [t.av] (.i (t.dep : Nat)) := by
 induction n with
 | zero => intro t h; have := size_pos t; omega
 | succ n ih =>
  intro t hn hb h
  have hsz := T.size_eq t
  have hll := Qag t.uses
  have hde := T.QpB t
  have hds := T.Qpk t
  have c0 := Z9 t
  refine Qh Tryz.func82 rfl Tryz.call82 Tryz.ntmps82 (congrArg Array.toList Tryz.results82) (by simp) ?_
  repeat (first | ((first | (with_reducible (first | refine Qa fun K E hK hE => ?_ | refine Qp c0 ?_))); simp -implicitDefEqProofs only [Qe, Qf, OpW, QK, aop, undef, AS.ev, Qv, AV.QoY, ↓reduceIte, QA, QB, ti41, seval]) | (with_reducible (first | refine Qd fun K hK => ?_ | refine Qi ?_)) | ((with_reducible refine hK _ ?_); clear hK))
  obtain ⟨I, hI⟩ : ∃ I : Nat → AS → Prop, I = fun m' s => ∃ (k : Nat) (L : AH), m' = t.uses.length - k ∧ k ≤ t.uses.length ∧ s.tm 3 = .i ((deps (t.uses.take k) : Nat) : Int) ∧ s.tm 4 = .sl 4 (avs t.uses) none ∧ s.tm 5 = .i k ∧ s.h = h ++ L := ⟨_, rfl⟩; refine QI I ?_ (m := t.uses.length) ?_
  ·intro m' s hs; rw [hI] at hs; obtain ⟨tm, hp⟩ := s; dsimp only at hs; obtain ⟨k, L, rfl, hk, t3, t4, t5, rfl⟩ := hs
   by_cases hlt : k < t.uses.length
   ·have hts := Qd5 hlt
    have c := ih t.uses[k] (by have := Qk5 hlt; omega) (by omega)
    repeat (first | ((first | (with_reducible (first | refine Qa fun K E hK hE => ?_ | refine Qk fun K E hK hE => ?_ | refine Qp c ?_))); simp -implicitDefEqProofs only [Qe, Qf, OpW, QK, aop, AS.ev, ↓reduceIte, QA, QB, Qt, aBin, aLen, goInt, ei29, un29, ti41, hlt, t3, t4, t5, Q3 hlt, seval]) | (with_reducible (first | refine Qd fun K hK => ?_ | refine Qi ?_ | refine Qn ?_ | refine Qb ?_ | refine Qo ?_)) | ((with_reducible refine hK _ ?_); clear hK) | (refine Qg rfl ?_; simp only [↓reduceIte]))
    refine QV.mk (m' := t.uses.length - (k + 1)) (by omega) ?_
    rw [hI]
    refine ⟨k + 1, _, rfl, hlt, ?_, t4, ?_, rfl⟩
    ·simp only [upd, ↓reduceIte, Nat.reduceEqDiff]
     rw [hts]
     congr 2
     split <;> omega
    ·simp only [upd, ↓reduceIte]
     rw [QP (by omega)]
   ·have hkl : k = t.uses.length := by omega
    have hd2 : deps (t.uses.take k) = deps t.uses := by rw [hkl, List.take_length]
    rw [hd2] at t3
    repeat (first | (((with_reducible refine Qa fun K E hK hE => ?_)); simp -implicitDefEqProofs only [Qe, Qf, OpW, aop, AS.ev, ↓reduceIte, aBin, aLen, goInt, un29, hlt, t3, t4, t5, seval]) | (with_reducible (first | refine Qd fun K hK => ?_ | refine Qj ?_ | refine QC ?_ | refine Qb ?_ | refine Qw ?_ | refine Qy ?_)) | ((with_reducible refine hK _ ?_); clear hK) | (clear hK; (with_reducible refine hK _ ?_); clear hK) | (refine Qg rfl ?_; simp only [↓reduceIte, QpQ]))
    simp only [QD, Ql, Qr, upd, ↓reduceIte, QpS, QpW]
    refine Qc (htake _ _) (.keep (.v _)) ⟨?_, rfl⟩
    rw [QP (by omega), hde, Nat.add_comm]
  ·rw [hI]
   exact ⟨0, [.cells 41 4 [t.av]], by omega, Nat.zero_le _, rfl, rfl, rfl, rfl⟩
end Go.Proofs.YtniljpjjnmkoaaaGreatDoor.Ab
namespace Go.Proofs.YtniljpjjnmkoaaaGreatDoor.Ab
open Go.Lib
def decN (n : Nat) : ByteArray := ⟨(decDigits n).toArray⟩
theorem QdL (n : Nat) : (decN n).size = nDigits n := by
 show (decDigits n).toArray.size = _
 rw [List.size_toArray, decDigits_length]
theorem Z1 : ∀ (k n : Nat), n < 10 ^ (k + 1) → nDigits n ≤ k + 1
 | 0, n, h => by rw [nDigits_small (by simpa using h)]; exact Nat.le_refl _
 | k + 1, n, h => by
  by_cases hn : n < 10
  ·rw [nDigits_small hn]; omega
  ·rw [nDigits_big hn]
   have := Z1 k (n / 10) (by rw [Nat.pow_succ] at h; omega)
   omega
theorem Qgs {n : Nat} (h : n ≤ 9223372036854775808) : (decN n).size ≤ 19 := by
 rw [QdL]
 exact Z1 18 n (by omega)
theorem Qfq {n : Nat} (h : n ≤ 1048576) : (decN n).size ≤ 7 := by
 rw [QdL]
 exact Z1 6 n (by omega)
theorem QlR (n : Nat) : 1 ≤ (decN n).size := by rw [QdL]; exact nDigits_pos n
end Go.Proofs.YtniljpjjnmkoaaaGreatDoor.Ab
set_option maxRecDepth 4000
namespace Go.Proofs.YtniljpjjnmkoaaaGreatDoor.Ab
open Go.Proofs Go.RowKit
def tabC : Array Value := (Lib.pow10Tab.map fun z => Value.int .u64 z).toArray
def Xw (h : AH) : Prop := HasG h 1 tabC
open Go.Sort in
theorem QbG (w : World) (q : Nat) (os : Array Obj) : Go.RowKit.Below w.heap.size w (grow (w.drewN q) os) :=
 ⟨rfl, rfl, rfl, by simp [grow], fun i hi => by
  show ((w.drewN q).heap ++ os)[i]? = _
  rw [Array.getElem?_append_left (by show i < w.heap.size; omega)]
  rfl⟩
theorem Qky (n : Nat) (hn : n ≤ 9223372036854775807) (h : AH) (hG : Xw h) : Xf Tryz.prog 99 [.i n] h fun o h' => o = .ret (.v (.string (decN n))) ∧ h' = h :=
 QcY (vs := [.int .i64 n]) Tryz.call99 fun c hst hh => by
  have hv : c.w.var? Tryz.prog "internal/strconv.uint64pow10" = some tabC := HasG.var hst (hh ▸ hG) (by kernel_rfl)
  refine (Tryz.strconv_Itoa n (by omega) (by omega) c.w hv).mono ?_
  rintro e w' ⟨rfl, k, os, rfl⟩
  refine ⟨_, rfl, ?_, fun c' => by rw [Lib.itoa_nonneg]; exact .v _⟩
  exact QbG c.w k os
theorem Qgi (n : Nat) (h1 : n ≤ 1048576) (h : AH) (hG : Xw h) : Xf Tryz.prog 57 [.i n] h fun o h' => o = .ret (.v (.string (vOf (decN n)))) ∧ h' = h :=
 QmU n (by omega) (by omega) _ (by have := Qfq h1; omega) h (Qky n (by omega) h hG)
end Go.Proofs.YtniljpjjnmkoaaaGreatDoor.Ab
set_option maxRecDepth 4000
namespace Go.Proofs.YtniljpjjnmkoaaaGreatDoor.Ab
open Go.Proofs
def BTy (ty : TypeId) : Prop := ty = 136 ∨ ty = 162
theorem Qnu (xo : Operand) : pv Tryz.prog (do eqGuard .eql 133 xo (.const (.pointer none)) (.pointer none) (.pointer none); binOp .eql 133 (.pointer none) (.pointer none)) = some (.bool true) := by
 kernel_rfl
theorem BTy.cells {ty : TypeId} (h : BTy ty) : Tryz.prog.cellsOf ty = 2 := by rcases h with rfl | rfl <;> kernel_rfl
theorem BTy.lies {ty : TypeId} (h : BTy ty) : liesAt Tryz.prog Tryz.prog.depth ty 1 0 136 1 = true := by rcases h with rfl | rfl <;> kernel_rfl
theorem unB : Tryz.prog.underlying 133 = some (.pointer 136) := by kernel_rfl
theorem unU : Tryz.prog.underlying 181 = some .unsafePointer := by kernel_rfl
theorem inB : ∃ j, Tryz.prog.info? 136 = some j ∧ j.size ≠ 0 := by
 have h : (match Tryz.prog.info? 136 with | some j => decide (j.size ≠ 0) | none => false) = true := by kernel_rfl
 cases hj : Tryz.prog.info? 136 with
 | none => rw [hj] at h; cases h
 | some j => rw [hj] at h; exact ⟨j, rfl, of_decide_eq_true h⟩
theorem isB : (Tryz.prog.info? 136).isSome = true := by kernel_rfl
theorem toU {ty : TypeId} (hty : BTy ty) {h : AH} {i : Nat} {xs : List AV} (hb : h[i]? = some (.cells ty 2 [.agg xs])) : Zm Tryz.prog 133 181 i 0 0 h = some (.ptr i 0 0) := by
 obtain ⟨j, hj, h0⟩ := inB
 simp only [Zm, hb, unB, unU, hj]
 rw [if_neg (by simp), if_pos h0]
theorem QoW {ty : TypeId} (hty : BTy ty) {h : AH} {i : Nat} {xs : List AV} (hb : h[i]? = some (.cells ty 2 [.agg xs])) : Zm Tryz.prog 181 133 i 0 0 h = some (.ptr i 0 0) := by
 obtain ⟨j, hj, h0⟩ := inB
 simp only [Zm, hb, unB, unU, hj]
 rw [if_neg (by simp), if_pos ⟨rfl, hty.cells, hty.lies⟩]
theorem ZS {ty : TypeId} (hty : BTy ty) {i j : Nat} (hij : i ≠ j) (u : Bool) (tx : ByteArray) : Wr Tryz.prog 5 ty 137 [.ptr i 0 0] i j u tx (.tup []) true tx := by
 intro h hi hj
 have f1 := fun x y => Yl h i x j y
 have f2 := fun x y => Yu (h := h) hi hij x y
 have f3 := fun x y z => QcH (h := h) (i := i) (j := j) hij x y z
 have f4 := Qnu
 have c0 := fun y h => QkY (P := Tryz.prog) (y := y) (h := h) Tryz.func153 (by kernel_rfl) (by kernel_rfl) (by kernel_rfl) (by kernel_rfl)
 cases u
 ·refine Qh Tryz.func137 rfl Tryz.call137 Tryz.ntmps137 (congrArg Array.toList Tryz.results137) (by simp) ?_
  rw [bw0, bw1]
  repeat (first | ((first | (with_reducible (first | refine Qa fun K E hK hE => ?_ | refine Qk fun K E hK hE => ?_ | refine FunW.ret (c0 _ _) ?_))); simp -implicitDefEqProofs only [Qe, Qf, OpW, QK, aop, undef, AS.ev, Qv, AV.QoY, ↓reduceIte, Qm, QA, QB, QO, QH, aBin, Qn1, Qka, QS, f2, f3, f4, toU hty (Yu (h := h) hi hij _ _), QoW hty (Yu (h := h) hi hij _ _), seval]) | ((with_reducible refine hK _ ?_); clear hK) | (refine Qg rfl ?_; simp only [↓reduceIte]))
  simp -implicitDefEqProofs only [QpO, QpS, List.mapM_nil, Option.pure_def, QpO, QD, Ql, QpW]
  exact .inr ⟨rfl, rfl⟩
 ·refine Qh Tryz.func137 rfl Tryz.call137 Tryz.ntmps137 (congrArg Array.toList Tryz.results137) (by simp) ?_
  rw [bw1]
  repeat (first | (((with_reducible refine Qa fun K E hK hE => ?_)); simp -implicitDefEqProofs only [Qe, Qf, OpW, aop, undef, AS.ev, Qv, ↓reduceIte, Qm, QA, QB, aBin, Qn1, QoC, Qka, QS, f2, isB, Qdg, notNil, seval]) | (with_reducible refine Qn ?_) | ((with_reducible refine hK _ ?_); clear hK) | (refine Qg rfl ?_; simp only [↓reduceIte, QpQ]))
  simp -implicitDefEqProofs only [QpO, QpS, List.mapM_nil, Option.pure_def, QpO, QD, Ql, QpW]
  exact .inr ⟨rfl, rfl⟩
theorem QnH : Tryz.prog.underlying 134 = some (.slice 5) := by kernel_rfl
theorem Qol : Tryz.prog.underlying 9 = some .string := by kernel_rfl
theorem inU8 : ∃ i z, Tryz.prog.info? 5 = some i ∧ i.zero = some z ∧ i.size = 1 ∧ i.bytes = 1 ∧ z.cells.size = 1 := by
 have h : (match Tryz.prog.info? 5 with | some i => (match i.zero with | some z => decide (i.size = 1 ∧ i.bytes = 1 ∧ z.cells.size = 1) | none => false) | none => false) = true := by kernel_rfl
 cases hj : Tryz.prog.info? 5 with
 | none => rw [hj] at h; cases h
 | some i =>
  cases hz : i.zero with
  | none => rw [hj] at h; simp [hz] at h
  | some z => rw [hj] at h; simp only [hz] at h; exact ⟨i, z, rfl, hz, of_decide_eq_true h⟩
theorem appS {tx s : ByteArray} {j : Nat} {h : AH} (hj : h[j]? = some (.grow 5 1 tx.size)) (hs : tx.size + s.size ≤ 140737488355328) :
  Qaz Tryz.prog 134 9 (.sl 1 (Q7 tx) (some j)) s h = some (.sl 1 (Q7 (tx ++ s)) (some j), h.set j (.grow 5 1 (tx ++ s).size)) := by
 obtain ⟨i, z, h1, h2, h3, h4, h5⟩ := inU8
 exact Qhq QnH Qol h1 h2 h3 h4 h5 hj hs
theorem appN : appInfo Tryz.prog 134 9 = none := by kernel_rfl
theorem QdH {ty : TypeId} (hty : BTy ty) {i j : Nat} (hij : i ≠ j) (u : Bool) (tx s : ByteArray) (hs : tx.size + s.size ≤ 140737488355328) : Wr Tryz.prog 5 ty 106 [.ptr i 0 0, .v (.string s)] i j u tx (.tup [.i s.size, .v .nilIface]) true (tx ++ s) := by
 intro h hi hj
 have f1 := fun x y => Yl h i x j y
 have f2 := fun x y => Yu (h := h) hi hij x y
 have f3 := fun x y z => QcH (h := h) (i := i) (j := j) hij x y z
 have f5 := fun x y z => QcE (h := h) (i := i) (j := j) x y z
 have f6 := fun x => appS (Qar (h := h) (i := i) hj x (.grow 5 1 tx.size)) hs
 have c1 := ZS hty hij u tx h hi hj
 have hsl := QbI Tryz.prog 9 3 Qol s
 refine Qh Tryz.func106 rfl Tryz.call106 Tryz.ntmps106 (congrArg Array.toList Tryz.results106) (by simp) ?_
 repeat (first | ((first | (with_reducible (first | refine Qa fun K E hK hE => ?_ | refine FunW.ret (FunW.call c1) ?_))); simp -implicitDefEqProofs only [Qe, Qf, OpW, QK, aop, undef, AS.ev, Qv, AV.QoY, ↓reduceIte, Qm, QA, QB, QO, QH, aLen, Xr, goInt, QlN, QeP, QS, f2, f3, f5, f6, bw1, aopR, appN, hsl, seval]) | (with_reducible refine Qj ?_) | ((with_reducible refine hK _ ?_); clear hK))
 simp -implicitDefEqProofs only [Qe, ↓reduceIte, Nat.reduceEqDiff, List.mapM_nil, List.mapM_cons, Option.pure_def, Option.bind_eq_bind, QD, Ql, Qr, QpW]
 exact .inr ⟨rfl, rfl⟩
theorem Qe0 {ty : TypeId} (hty : BTy ty) {i j : Nat} (hij : i ≠ j) (u : Bool) (tx : ByteArray) (b : UInt8) (hs : tx.size < 140737488355328) : Wr Tryz.prog 5 ty 152 [.ptr i 0 0, .v (.int .u8 (b.toNat : Nat))] i j u tx (.v .nilIface) true (tx ++ { data := #[b] }) := by
 intro h hi hj
 have f1 := fun x y => Yl h i x j y
 have f2 := fun x y => Yu (h := h) hi hij x y
 have f3 := fun x y z => QcH (h := h) (i := i) (j := j) hij x y z
 have f5 := fun x y z => QcE (h := h) (i := i) (j := j) x y z
 have f7 := fun x y => Qar (h := h) (i := i) hj x y
 have c1 := ZS hty hij u tx h hi hj
 have e1 : Q7 (tx ++ { data := #[b] }) = Q7 tx ++ [.v (.int .u8 (b.toNat : Nat))] := Zl tx _
 have e2 : (tx ++ ({ data := #[b] } : ByteArray)).size = tx.size + 1 := QJ _ _
 have hs' : tx.size + 1 ≤ 140737488355328 := hs
 refine Qh Tryz.func152 rfl Tryz.call152 Tryz.ntmps152 (congrArg Array.toList Tryz.results152) (by simp) ?_
 rw [bw1, e1, e2]
 have hm : tx.size + 1 ≤ maxLen := by simp only [maxLen]; omega
 repeat (first | ((first | (with_reducible (first | refine Qa fun K E hK hE => ?_ | refine FunW.ret (FunW.call c1) ?_))); simp -implicitDefEqProofs only [Qe, Qf, OpW, QK, aop, undef, AS.ev, Qv, AV.QoY, ↓reduceIte, Qm, QA, QB, QO, QH, QM, Xr, XS, zi5, QlN, Qn3, Qn8, QeP, QS, f2, f3, f5, f7, bw1, XE, hm, hs', Nat.mul_one, seval]) | (with_reducible refine Qj ?_) | ((with_reducible refine hK _ ?_); clear hK))
 simp -implicitDefEqProofs only [Qer, ↓reduceIte, QpS, QD, Ql, Qr, QpW]
 exact .inr ⟨rfl, rfl⟩
theorem unPB : Tryz.prog.underlying 166 = some (.pointer 5) := by kernel_rfl
theorem szB : Tryz.prog.cellsOf 5 = 1 := by kernel_rfl
theorem Qjy {ty : TypeId} {i j : Nat} (hij : i ≠ j) (tx : ByteArray) (h0 : 0 < tx.size) (hs : tx.size ≤ 140737488355328) : Chg2 Tryz.prog 107 [.ptr i 0 0] i (bw ty i j true tx) j (.grow 5 1 tx.size) (.v (.string tx)) (bw ty i j true tx) .gone := by
 intro h hi hj
 have f1 := fun x y => Yl h i x j y
 have f2 := fun x y => Yu (h := h) hi hij x y
 have f5 := fun x y z => QcE (h := h) (i := i) (j := j) x y z
 have f7 := fun x y => Qar (h := h) (i := i) hj x y
 have hs' : tx.size ≤ 9223372036854775807 := by omega
 have g1 := QcD h0 j
 have g2 := fun x => Qcz (P := Tryz.prog) unPB szB (T := tx) (f7 x (.grow 5 1 tx.size)) h0 hs'
 refine Qh Tryz.func107 rfl Tryz.call107 Tryz.ntmps107 (congrArg Array.toList Tryz.results107) (by simp) ?_
 rw [bw1]
 repeat (first | ((first | (with_reducible refine Qa fun K E hK hE => ?_) | (refine Qu (id := 1) [(0, 0), (1, 0), (2, 0), (3, 0), (4, 0), (5, 0), (6, 0), (7, 0), (8, 0), (9, 0), (10, 2), (11, 0)] mixed (by kernel_rfl) fun K hK => ?_)); simp -implicitDefEqProofs only [Qe, Qf, OpW, aop, undef, AS.ev, Qv, ↓reduceIte, Qm, QA, QB, aLen, goInt, QlN, QoL, QeP, QS, f2, f5, g1, g2, XE, seval]) | (with_reducible refine Qj ?_) | ((with_reducible refine hK _ ?_); clear hK))
 simp only [QD, Ql, Qr, upd, ↓reduceIte, QpS, QpW]
 exact .inr ⟨rfl, rfl⟩
abbrev mi : ByteArray := { data := #[45] }
def decZ (n : Int) : ByteArray := if n < 0 then mi ++ decN n.natAbs else decN n.toNat
theorem Qla (n : Int) : (⟨(Lib.itoa n).toArray⟩ : ByteArray) = decZ n := by
 unfold decZ Lib.itoa
 split
 ·apply ByteArray.ext; rfl
 ·rfl
theorem Qku (n : Int) (h1 : -9223372036854775808 ≤ n) (h2 : n ≤ 9223372036854775807) : (decZ n).size ≤ 20 := by
 unfold decZ
 split
 ·rw [QJ]
  have := Qgs (n := n.natAbs) (by omega)
  have : mi.size = 1 := rfl
  omega
 ·have := Qgs (n := n.toNat) (by omega)
  omega
theorem QmN (n : Int) : 0 < (decZ n).size := by
 unfold decZ
 split
 ·rw [QJ]
  have : mi.size = 1 := rfl
  omega
 ·exact QlR _
theorem QiY (n : Int) (h0 : -9223372036854775808 ≤ n) (hn : n ≤ 9223372036854775807) (h : AH) (hG : Xw h) : Xf Tryz.prog 99 [.i n] h fun o h' => o = .ret (.v (.string (decZ n))) ∧ h' = h :=
 QcY (vs := [.int .i64 n]) Tryz.call99 fun c hst hh => by
  have hv : c.w.var? Tryz.prog "internal/strconv.uint64pow10" = some tabC := HasG.var hst (hh ▸ hG) (by kernel_rfl)
  refine (Tryz.strconv_Itoa n h0 hn c.w hv).mono ?_
  rintro e w' ⟨rfl, k, os, rfl⟩
  refine ⟨_, rfl, ?_, fun c' => by rw [← Qla]; exact .v _⟩
  exact QbG c.w k os
def ofB (s : ByteArray) : Int := if (s.toList == ({ data := #[43] } : ByteArray).toList) || (s.toList == ({ data := #[45] } : ByteArray).toList) then 1 else if (s.toList == ({ data := #[42] } : ByteArray).toList) || (s.toList == ({ data := #[47] } : ByteArray).toList) || (s.toList == ({ data := #[37] } : ByteArray).toList) then 2 else 0
def T.oper (t : T) : Int := if t.kind ≠ 2 ∨ t.args.length ≠ 2 then 0 else ofB t.name
theorem QiT (s : ByteArray) : Pure Tryz.prog 151 [.v (.string s)] (.i (ofB s)) := by
 intro h
 cases b1 : s.toList == ({ data := #[43] } : ByteArray).toList
 ·cases b2 : s.toList == ({ data := #[45] } : ByteArray).toList
  ·cases b3 : s.toList == ({ data := #[42] } : ByteArray).toList
   ·cases b4 : s.toList == ({ data := #[47] } : ByteArray).toList
    ·cases b5 : s.toList == ({ data := #[37] } : ByteArray).toList
     ·have e : ofB s = 0 := by rw [ofB, b1, b2, b3, b4, b5]; rfl
      refine Qh Tryz.func151 rfl Tryz.call151 Tryz.ntmps151 (congrArg Array.toList Tryz.results151) (by simp) ?_
      repeat (first | ((first | (with_reducible (first | refine Qa fun K E hK hE => ?_ | refine Qk fun K E hK hE => ?_))); simp -implicitDefEqProofs only [Qe, Qf, OpW, aop, undef, AS.ev, Qv, ↓reduceIte, aBin, b1, b2, b3, b4, b5, seval]) | (with_reducible (first | refine Qd fun K hK => ?_ | refine Qi ?_ | refine Qj ?_ | refine Qn ?_ | refine Qb ?_ | refine Qo ?_)) | ((with_reducible refine hK _ ?_); clear hK) | (refine Qg rfl ?_; simp only [↓reduceIte, QpQ]))
      simp only [QD, Ql, Qr, upd, ↓reduceIte, QpS, QpW]; first | refine Qc (htake _ _) (.keep (.v _)) ⟨by rw [e], rfl⟩ | refine Qc List.take_length (.keep (.v _)) ⟨by rw [e], rfl⟩
     ·have e : ofB s = 2 := by rw [ofB, b1, b2, b3, b4, b5]; rfl
      refine Qh Tryz.func151 rfl Tryz.call151 Tryz.ntmps151 (congrArg Array.toList Tryz.results151) (by simp) ?_
      repeat (first | ((first | (with_reducible (first | refine Qa fun K E hK hE => ?_ | refine Qk fun K E hK hE => ?_))); simp -implicitDefEqProofs only [Qe, Qf, OpW, aop, undef, AS.ev, Qv, ↓reduceIte, aBin, b1, b2, b3, b4, b5, seval]) | (with_reducible (first | refine Qd fun K hK => ?_ | refine Qi ?_ | refine Qj ?_ | refine Qb ?_ | refine Qq ?_ | refine Qs ?_)) | ((with_reducible refine hK _ ?_); clear hK) | (refine Qg rfl ?_; simp only [↓reduceIte, QpQ]))
      simp only [QD, Ql, Qr, upd, ↓reduceIte, QpS, QpW]; first | refine Qc (htake _ _) (.keep (.v _)) ⟨by rw [e], rfl⟩ | refine Qc List.take_length (.keep (.v _)) ⟨by rw [e], rfl⟩
    ·have e : ofB s = 2 := by rw [ofB, b1, b2, b3, b4]; rfl
     refine Qh Tryz.func151 rfl Tryz.call151 Tryz.ntmps151 (congrArg Array.toList Tryz.results151) (by simp) ?_
     repeat (first | ((first | (with_reducible (first | refine Qa fun K E hK hE => ?_ | refine Qk fun K E hK hE => ?_))); simp -implicitDefEqProofs only [Qe, Qf, OpW, aop, undef, AS.ev, Qv, ↓reduceIte, aBin, b1, b2, b3, b4, seval]) | (with_reducible (first | refine Qd fun K hK => ?_ | refine Qi ?_ | refine Qj ?_ | refine Qn ?_ | refine Qb ?_ | refine Qq ?_ | refine Qs ?_)) | ((with_reducible refine hK _ ?_); clear hK) | (refine Qg rfl ?_; simp only [↓reduceIte, QpQ]))
     simp only [QD, Ql, Qr, upd, ↓reduceIte, QpS, QpW]; first | refine Qc (htake _ _) (.keep (.v _)) ⟨by rw [e], rfl⟩ | refine Qc List.take_length (.keep (.v _)) ⟨by rw [e], rfl⟩
   ·have e : ofB s = 2 := by rw [ofB, b1, b2, b3]; rfl
    refine Qh Tryz.func151 rfl Tryz.call151 Tryz.ntmps151 (congrArg Array.toList Tryz.results151) (by simp) ?_
    repeat (first | ((first | (with_reducible (first | refine Qa fun K E hK hE => ?_ | refine Qk fun K E hK hE => ?_))); simp -implicitDefEqProofs only [Qe, Qf, OpW, aop, undef, AS.ev, Qv, ↓reduceIte, aBin, b1, b2, b3, seval]) | (with_reducible (first | refine Qd fun K hK => ?_ | refine Qi ?_ | refine Qj ?_ | refine Qn ?_ | refine Qb ?_ | refine Qq ?_ | refine Qs ?_)) | ((with_reducible refine hK _ ?_); clear hK) | (refine Qg rfl ?_; simp only [↓reduceIte, QpQ]))
    simp only [QD, Ql, Qr, upd, ↓reduceIte, QpS, QpW]; first | refine Qc (htake _ _) (.keep (.v _)) ⟨by rw [e], rfl⟩ | refine Qc List.take_length (.keep (.v _)) ⟨by rw [e], rfl⟩
  ·have e : ofB s = 1 := by rw [ofB, b1, b2]; rfl
   refine Qh Tryz.func151 rfl Tryz.call151 Tryz.ntmps151 (congrArg Array.toList Tryz.results151) (by simp) ?_
   repeat (first | ((first | (with_reducible (first | refine Qa fun K E hK hE => ?_ | refine Qk fun K E hK hE => ?_))); simp -implicitDefEqProofs only [Qe, Qf, OpW, aop, undef, AS.ev, Qv, ↓reduceIte, aBin, b1, b2, seval]) | (with_reducible (first | refine Qd fun K hK => ?_ | refine Qi ?_ | refine Qj ?_ | refine Qb ?_ | refine Qq ?_ | refine Qs ?_)) | ((with_reducible refine hK _ ?_); clear hK) | (refine Qg rfl ?_; simp only [↓reduceIte, QpQ]))
   simp only [QD, Ql, Qr, upd, ↓reduceIte, QpS, QpW]; first | refine Qc (htake _ _) (.keep (.v _)) ⟨by rw [e], rfl⟩ | refine Qc List.take_length (.keep (.v _)) ⟨by rw [e], rfl⟩
 ·have e : ofB s = 1 := by rw [ofB, b1]; rfl
  refine Qh Tryz.func151 rfl Tryz.call151 Tryz.ntmps151 (congrArg Array.toList Tryz.results151) (by simp) ?_
  repeat (first | (((with_reducible refine Qa fun K E hK hE => ?_)); simp -implicitDefEqProofs only [Qe, Qf, OpW, aop, undef, AS.ev, Qv, ↓reduceIte, aBin, b1, seval]) | (with_reducible (first | refine Qd fun K hK => ?_ | refine Qi ?_ | refine Qj ?_ | refine Qn ?_ | refine Qb ?_ | refine Qq ?_ | refine Qs ?_)) | ((with_reducible refine hK _ ?_); clear hK) | (refine Qg rfl ?_; simp only [↓reduceIte]))
  simp only [QD, Ql, Qr, upd, ↓reduceIte, QpS, QpW]; first | refine Qc (htake _ _) (.keep (.v _)) ⟨by rw [e], rfl⟩ | refine Qc List.take_length (.keep (.v _)) ⟨by rw [e], rfl⟩
theorem Qax (t : T) (hl : t.args.length ≤ maxLen) : Pure Tryz.prog 132 [t.av] (.i t.oper) := by
 intro h
 have c1 := QiT t.name
 have e1 : t.av = .agg [.i t.kind, .i t.int, .v (.string t.name), .sl 4 (avs t.args) none] := by cases t; rfl
 have m1 : ((t.args.length : Int) == 2) = decide (t.args.length = 2) := by
  rw [Bool.eq_iff_iff]; simp; omega
 by_cases hk : t.kind = 2
 ·by_cases hn : t.args.length = 2
  ·have e : t.oper = ofB t.name := by rw [T.oper, if_neg]; omega
   have m2 : ((t.args.length : Int) != 2) = false := by simp; omega
   refine Qh Tryz.func132 rfl Tryz.call132 Tryz.ntmps132 (congrArg Array.toList Tryz.results132) (by simp) ?_
   rw [e1]
   repeat (first | ((first | (with_reducible (first | refine Qa fun K E hK hE => ?_ | refine Qp c1 ?_))); simp -implicitDefEqProofs only [Qe, Qf, OpW, QK, aop, undef, AS.ev, Qv, AV.QoY, ↓reduceIte, Qm, QA, QB, aBin, aLen, goInt, ti3, ti9, ti29, un29, QX, Xl, Xc, hk, m2, seval]) | (with_reducible (first | refine Qd fun K hK => ?_ | refine Qj ?_ | refine Qn ?_ | refine Qb ?_)) | ((with_reducible refine hK _ ?_); clear hK) | (refine Qg rfl ?_; simp only [↓reduceIte, QpQ]))
   simp only [QD, Ql, Qr, upd, ↓reduceIte, QpS, QpW]; first | refine Qc (htake _ _) (.keep (.v _)) ⟨by rw [e], rfl⟩ | refine Qc List.take_length (.keep (.v _)) ⟨by rw [e], rfl⟩
  ·have e : t.oper = 0 := by rw [T.oper, if_pos (.inr hn)]
   have m2 : ((t.args.length : Int) != 2) = true := by simp; omega
   refine Qh Tryz.func132 rfl Tryz.call132 Tryz.ntmps132 (congrArg Array.toList Tryz.results132) (by simp) ?_
   rw [e1]
   repeat (first | (((with_reducible refine Qa fun K E hK hE => ?_)); simp -implicitDefEqProofs only [Qe, Qf, OpW, aop, undef, AS.ev, Qv, AV.QoY, ↓reduceIte, Qm, QA, QB, aBin, aLen, goInt, ti3, ti29, un29, QX, Xc, hk, m2, seval]) | (with_reducible (first | refine Qd fun K hK => ?_ | refine Qj ?_ | refine Qq ?_)) | ((with_reducible refine hK _ ?_); clear hK) | (refine Qg rfl ?_; simp only [↓reduceIte]))
   simp only [QD, Ql, Qr, upd, ↓reduceIte, QpS, QpW]; first | refine Qc (htake _ _) (.keep (.v _)) ⟨by rw [e], rfl⟩ | refine Qc List.take_length (.keep (.v _)) ⟨by rw [e], rfl⟩
 ·have e : t.oper = 0 := by rw [T.oper, if_pos (.inl hk)]
  have m2 : (t.kind != 2) = true := by simpa using hk
  refine Qh Tryz.func132 rfl Tryz.call132 Tryz.ntmps132 (congrArg Array.toList Tryz.results132) (by simp) ?_
  rw [e1]
  repeat (first | (((with_reducible refine Qa fun K E hK hE => ?_)); simp -implicitDefEqProofs only [Qe, Qf, OpW, aop, undef, AS.ev, Qv, AV.QoY, ↓reduceIte, Qm, QA, QB, aBin, ti3, QX, m2, seval]) | (with_reducible (first | refine Qd fun K hK => ?_ | refine Qj ?_ | refine Qq ?_)) | ((with_reducible refine hK _ ?_); clear hK) | (refine Qg rfl ?_; simp only [↓reduceIte]))
  simp only [QD, Ql, Qr, upd, ↓reduceIte, QpS, QpW]; first | refine Qc (htake _ _) (.keep (.v _)) ⟨by rw [e], rfl⟩ | refine Qc List.take_length (.keep (.v _)) ⟨by rw [e], rfl⟩
end Go.Proofs.YtniljpjjnmkoaaaGreatDoor.Ab
namespace Go.Proofs.YtniljpjjnmkoaaaGreatDoor.Ab
abbrev DA := FuncId × List AV
def RelD (c : Cx) (d : DA) (x : Deferred) : Prop := ∃ caps, x.target = .fn (.func d.1) caps ∧ RelL c d.2 (x.args ++ caps)
theorem RelD.ev {c c' : Cx} (hs : St c) (h : Ev c c') {d : DA} {x : Deferred} (hr : RelD c d x) : RelD c' d x :=
 let ⟨caps, e, r⟩ := hr; ⟨caps, e, r.ev hs h⟩
inductive Ent where
 | mark (D : Nat)
 | call (d : DA) (x : Deferred)
def Ent.dfr : Ent → Deferred
 | .mark D => Qhf D
 | .call _ x => x
def Ent.da : Ent → Option DA
 | .mark _ => none
 | .call d _ => some d
def Ent.mk? : Ent → Option Nat
 | .mark D => some D
 | .call _ _ => none
def Ent.ok (c : Cx) (lo : Nat) : Ent → Prop
 | .mark D => lo ≤ D ∧ c.w.heap[D]? = some (.deferred (some [])) ∧ ¬ c.owns D
 | .call d x => RelD c d x
theorem Ent.ok.ev {c c' : Cx} (hs : St c) (h : Ev c c') {lo : Nat} {e : Ent} (hk : e.ok c lo) : e.ok c' lo := by
 cases e with
 | mark D =>
  obtain ⟨h1, h2, h3⟩ := hk
  have hlt := (Array.getElem?_eq_some_iff.1 h2).1
  exact ⟨h1, (h.frame D hlt h3).trans h2, fun ho => h3 (h.owns hlt ho)⟩
 | call d x => exact RelD.ev hs h hk
def DefsOk (c : Cx) (lo : Nat) (ds : List DA) (l : List Deferred) : Prop :=
 ∃ es : List Ent, l = es.map Ent.dfr ∧ ds = es.filterMap Ent.da ∧ (es.filterMap Ent.mk?).Nodup ∧ ∀ e ∈ es, e.ok c lo
theorem DefsOk.ev {c c' : Cx} (hs : St c) (h : Ev c c') {lo : Nat} {ds : List DA} {l : List Deferred} (hd : DefsOk c lo ds l) : DefsOk c' lo ds l :=
 let ⟨es, h1, h2, h3, h4⟩ := hd; ⟨es, h1, h2, h3, fun e he => (h4 e he).ev hs h⟩
theorem Qln (Ds : List Nat) : (Ds.map Ent.mark).map Ent.dfr = Ds.map Qhf := by rw [List.map_map]; rfl
theorem QmW (Ds : List Nat) : (Ds.map Ent.mark).filterMap Ent.da = [] := by
 induction Ds with
 | nil => rfl
 | cons D Ds ih => rw [List.map_cons, List.filterMap_cons, ih]; rfl
theorem Qma (Ds : List Nat) : (Ds.map Ent.mark).filterMap Ent.mk? = Ds := by
 induction Ds with
 | nil => rfl
 | cons D Ds ih => rw [List.map_cons, List.filterMap_cons, ih]; rfl
theorem DefsOk.marks {c c' : Cx} (hs : St c) (h : Ev c c') {lo : Nat} {ds : List DA} {l l' : List Deferred} (hlo : lo ≤ c.w.heap.size) (hd : DefsOk c lo ds l) (hd' : DefOk c' ⟨c.w.heap.size, l⟩ l') : DefsOk c' lo ds l' := by
 obtain ⟨Ds, f1, f2, f3⟩ := hd'
 obtain ⟨es, e1, e2, e3, e4⟩ := hd
 refine ⟨Ds.map Ent.mark ++ es, ?_, ?_, ?_, ?_⟩
 ·rw [f1, List.map_append, Qln, e1]
 ·rw [List.filterMap_append, QmW, List.nil_append, e2]
 ·rw [List.filterMap_append, Qma, List.nodup_append]
  refine ⟨f2, e3, fun a ha b hb hab => ?_⟩
  subst hab
  have g1 := (f3 a ha).1
  simp only [List.mem_filterMap] at hb
  obtain ⟨e, he, hm⟩ := hb
  cases e with
  | call d x => cases hm
  | mark D =>
   simp only [Ent.mk?, QpS] at hm
   subst hm
   have := (Array.getElem?_eq_some_iff.1 (e4 _ he).2.1).1
   simp only at g1
   omega
 ·intro e he
  rcases List.mem_append.1 he with he | he
  ·obtain ⟨D, hD, rfl⟩ := List.mem_map.1 he
   obtain ⟨g1, g2, g3⟩ := f3 D hD
   exact ⟨Nat.le_trans hlo g1, g2, g3⟩
  ·exact (e4 e he).ev hs h
structure SRd (N lo : Nat) (c : Cx) (s : AS) (a : Act) (ds : List DA) : Prop where
 h : c.h = s.h
 size : a.tmps.size = N
 above : lo ≤ c.w.heap.size
 defs : DefsOk c lo ds a.defers
 tm : ∀ t, Rel c (s.tm t) (a.tmps.getD t undef)
theorem SRd.sr {N lo : Nat} {c : Cx} {s : AS} {a : Act} {ds : List DA} (h : SRd N lo c s a ds) {F : Fence} (hro : F.round = none) : SR N (⟨c.w.heap.size, a.defers⟩, F) c s a :=
 ⟨h.h, h.size, Nat.le_refl _, ⟨[], rfl, List.nodup_nil, fun D hD => by cases hD⟩, fun l hl => (by rw [hro] at hl; cases hl), h.tm⟩
theorem SRd.Qpv {N lo : Nat} {c c' : Cx} {s s' : AS} {a a' : Act} {ds : List DA} {F : Fence} (hs : St c) (h : SRd N lo c s a ds) (hev : Ev c c') (hr : SR N (⟨c.w.heap.size, a.defers⟩, F) c' s' a') : SRd N lo c' s' a' ds :=
 ⟨hr.h, hr.size, Nat.le_trans h.above hev.size, h.defs.marks hs hev h.above hr.defers, hr.tm⟩
def DefW (P : Program) (N : Nat) (code : Code) (Q : AExit → AS → List DA → Prop) (s : AS) (ds : List DA) : Prop :=
 ∀ (F : Fence) (n lo : Nat) (c : Cx) (a : Act), WF F → F.round = none → St c → SRd N lo c s a ds →
  ∀ R : Exit → Act → World → Prop, (∀ e s' ds' c' a' e', Q e s' ds' → Ev c c' → St c' → SRd N lo c' s' a' ds' → ExC c' e e' → R e' a' c'.w) → code.wpIn F n P R a c.w
section rules
variable {P : Program} {N : Nat} {Q : AExit → AS → List DA → Prop} {s : AS} {ds : List DA}
theorem Qbi {code : Code} (H : Xz P N code (fun e s' => Q e s' ds) s) : DefW P N code Q s ds := by
 intro F n lo c a hF hro hst hr R hR
 refine H F n ⟨c.w.heap.size, a.defers⟩ c a hF hst (hr.sr hro) R fun e s' c' a' e' hQ hev hst' hsr hex => ?_
 exact hR e s' ds c' a' e' hQ hev hst' (hr.Qpv hst hev hsr) hex
def AExit.QpL (K : AS → List DA → Prop) (Q : AExit → AS → List DA → Prop) : AExit → AS → List DA → Prop
 | .normal, s, ds => K s ds
 | e, s, ds => Q e s ds
theorem QfF {x y : Code} (h : DefW P N x (AExit.QpL (fun s ds => DefW P N y Q s ds) Q) s ds) : DefW P N (.seq x y) Q s ds := by
 intro F n lo c a hF hro hs hr R hR
 refine wpIn_seq (h F n lo c a hF hro hs hr _ ?_)
 intro e s' ds' c' a' e' hQ hev hst hsr hex
 cases e with
 | normal =>
  cases hex
  exact hQ F n lo c' a' hF hro hst hsr R fun e s2 ds2 c2 a2 e2 hQ2 hev2 hst2 hsr2 hex2 => hR e s2 ds2 c2 a2 e2 hQ2 (Ev.trans hs hev hev2) hst2 hsr2 hex2
 | exit id => cases hex; exact hR _ s' ds' c' a' _ hQ hev hst hsr rfl
 | ret => cases hex; exact hR _ s' ds' c' a' _ hQ hev hst hsr rfl
 | panic av => obtain ⟨x, rfl, hx⟩ := hex; exact hR _ s' ds' c' a' _ hQ hev hst hsr ⟨x, rfl, hx⟩
theorem Qlh {o : Operand} {x y : Code} {t : Bool} (ho : s.ev o = .v (.bool t)) (h : DefW P N (if t then x else y) Q s ds) : DefW P N (.cond o x y) Q s ds := by
 intro F n lo c a hF hro hs hr R hR
 have he := (hr.sr hro).eval o
 rw [ho] at he
 have hx : a.eval o = .bool t := by
  generalize a.eval o = u at he
  cases he; rfl
 exact wpIn_cond hx (h F n lo c a hF hro hs hr R hR)
theorem Qhv {id : Nat} {ops : Array Oper} (i : Nat) {o : Oper} {cl : Call} {f : Operand} (ho : ops.toList[i]? = some o) (hop : o.op = .defer cl) (hcl : cl.callee = .value f)
  (H : OpsW P N ops (ops.toList.take i) (fun s1 => Qf ops s1.tm o = some true ∧ ∃ g first cap, s1.ev f = .fn (.func g) first cap ∧
   OpsW P N ops (ops.toList.drop (i + 1)) (fun s2 => Q .normal s2 ((g, first ++ cl.args.toList.map s1.ev ++ cap) :: ds)) (fun r s2 => Q (.panic r) s2 ((g, first ++ cl.args.toList.map s1.ev ++ cap) :: ds)) (AS.put N s1 o.dst (.v undef)))
   (fun r s1 => Q (.panic r) s1 ds) s) : DefW P N (.region id ops false) Q s ds := by
 intro F n lo c a hF hro hst hr R hR
 refine wpIn_region ?_
 have hlt := QF ho
 have hi : (ops.toList.take i).length = i := by rw [List.length_take]; omega
 have hrange : List.range ops.size = List.range' 0 (ops.toList.take i).length ++ (i :: (List.range' (i + 1) (ops.toList.drop (i + 1)).length ++ [])) := by
  rw [hi, List.append_nil, List.length_drop, List.range_eq_range', ← Array.length_toList]
  have : ops.toList.length = i + (1 + (ops.toList.length - (i + 1))) := by omega
  conv => lhs; rw [this]
  rw [← List.range'_append_1, Nat.zero_add, ← List.range'_append_1]
  rfl
 have hget : ∀ j, (ops.toList.drop (i + 1))[j]? = ops[i + 1 + j]? := fun j => by rw [List.getElem?_drop]; simp
 rw [hrange]
 refine QfS hF (ops.toList.take i) 0 s c a (fun j hj => by rw [List.getElem?_take, if_pos (by omega)]; simp) H hst (hr.sr hro) ?_ ?_
 ·intro s1 c1 a1 h1 h2 h3 h4
  have h0 : ops[i]? = some o := by rw [← ho]; simp
  obtain ⟨hw, g, first, cap, hf, hpost⟩ := h1
  simp only [wpOpsIn, h0]
  rw [XN h4 hw]
  simp only [if_true]
  have hr1 := hr.Qpv hst h2 h4
  have hfv := h4.eval f
  rw [hf] at hfv
  obtain ⟨vs, ws, hae, hv1, hv2⟩ : ∃ vs ws, a1.eval f = .func (.func g) vs ws ∧ RelL c1 first vs ∧ RelL c1 cap ws := by
   generalize a1.eval f = u at hfv
   cases hfv with
   | fn _ _ _ vs ws e1 e2 g1 g2 => exact ⟨vs, ws, rfl, ⟨e1, g1⟩, ⟨e2, g2⟩⟩
  have hargs : RelL c1 (cl.args.toList.map s1.ev) (cl.args.map a1.eval) := by
   refine ⟨by simp, fun j x u hx hu => ?_⟩
   rw [List.getElem?_map] at hx
   rw [Array.getElem?_map] at hu
   cases hj : cl.args[j]? with
   | none => simp [hj] at hu
   | some q =>
    simp only [hj, QpO, QpS] at hu
    simp only [Array.getElem?_toList, hj, QpO, QpS] at hx
    subst hx; subst hu
    exact h4.eval q
  have hD : RelD c1 (g, first ++ cl.args.toList.map s1.ev ++ cap) ⟨.fn (.func g) ws, vs ++ cl.args.map a1.eval⟩ := ⟨ws, rfl, RelL.append (RelL.append hv1 hargs) hv2⟩
  have hrun : (execOp a1.eval o).run P c1.w = .ok (.defer ⟨.fn (.func g) ws, vs ++ cl.args.map a1.eval⟩) c1.w := by
   simp only [execOp, hop, resolve, hcl, hae, Deferred.ofValue, Sem.run_bind, Sem.run_pure, Result.andThen_ok]
  refine ⟨fun f _ => hF.fn f, ?_⟩
  rw [hro, Oper.semAt_none, hrun, Oper.uponIn_defer]
  have hput := h4.put h3 (Ev.refl c1) o.dst (.v undef)
  rw [h4.h] at hput
  have hd2 : DefsOk c1 lo ((g, first ++ cl.args.toList.map s1.ev ++ cap) :: ds) (⟨.fn (.func g) ws, vs ++ cl.args.map a1.eval⟩ :: a1.defers) := by
   obtain ⟨es, e1, e2, e3, e4⟩ := hr1.defs
   refine ⟨.call _ ⟨.fn (.func g) ws, vs ++ cl.args.map a1.eval⟩ :: es, by rw [e1]; rfl, by rw [e2]; rfl, e3, fun e he => ?_⟩
   rcases List.mem_cons.1 he with rfl | he
   ·exact hD
   ·exact e4 e he
  have hdf : ((({ a1 with defers := ⟨.fn (.func g) ws, vs ++ cl.args.map a1.eval⟩ :: a1.defers } : Act).put o.dst undef)).defers = ⟨.fn (.func g) ws, vs ++ cl.args.map a1.eval⟩ :: a1.defers := by
   cases o.dst <;> rfl
  have htm : ((({ a1 with defers := ⟨.fn (.func g) ws, vs ++ cl.args.map a1.eval⟩ :: a1.defers } : Act).put o.dst undef)).tmps = (a1.put o.dst undef).tmps := by
   cases o.dst <;> rfl
  have hr2 : SRd N lo c1 (AS.put N s1 o.dst (.v undef)) (({ a1 with defers := ⟨.fn (.func g) ws, vs ++ cl.args.map a1.eval⟩ :: a1.defers } : Act).put o.dst undef) ((g, first ++ cl.args.toList.map s1.ev ++ cap) :: ds) :=
   ⟨hput.h, by rw [htm]; exact hput.size, hr1.above, by rw [hdf]; exact hd2, fun t => by rw [htm]; exact hput.tm t⟩
  refine QfS hF _ (i + 1) _ c1 _ (fun j _ => hget j) hpost h3 (hr2.sr hro) ?_ ?_
  ·intro s' c' a' hQ k1 k2 k3
   simp only [wpOpsIn]
   exact hR _ s' _ c' a' _ hQ (Ev.trans hst h2 k1) k2 (hr2.Qpv h3 k1 k3) rfl
  ·intro r s' c' a' x hQ k1 k2 k3 hx
   exact hR _ s' _ c' a' _ hQ (Ev.trans hst h2 k1) k2 (hr2.Qpv h3 k1 k3) ⟨x, rfl, hx⟩
 ·intro r s' c' a' x hQ h1 h2 h3 hx
  exact hR _ s' ds c' a' _ hQ h1 h2 (hr.Qpv hst h1 h3) ⟨x, rfl, hx⟩
end rules
inductive AMode where
 | ret
 | pan (v : AV) (recovered : Bool)
def MdC (c : Cx) : AMode → FrameMode → Prop
 | .ret, u => u = .returning
 | .pan v b, u => ∃ x, u = .panicking [{ v := x, recovered := b }] ∧ Rel c v x
theorem MdC.ev {c c' : Cx} (hs : St c) (h : Ev c c') {m : AMode} {u : FrameMode} (hm : MdC c m u) : MdC c' m u := by
 cases m with
 | ret => exact hm
 | pan v b => obtain ⟨x, e, r⟩ := hm; exact ⟨x, e, r.ev hs h⟩
theorem MdC.run {c : Cx} {m : AMode} {u : FrameMode} (hm : MdC c m u) : u ≠ .run := by
 cases m with
 | ret => rw [show u = .returning from hm]; simp
 | pan v b => obtain ⟨x, e, r⟩ := hm; rw [e]; simp
def AMode.settle : AMode → AMode
 | .pan _ true => .ret
 | m => m
theorem MdC.settle {c : Cx} {m : AMode} {u : FrameMode} (hm : MdC c m u) : MdC c m.settle (Go.settle u) := by
 cases m with
 | ret => rw [show u = .returning from hm]; rfl
 | pan v b =>
  obtain ⟨x, rfl, r⟩ := hm
  cases b with
  | true => rfl
  | false => exact ⟨x, rfl, r⟩
def Qby (P : Program) (f : FuncId) (args : List AV) (h : AH) (m : AMode) (Q : AMode → AH → Prop) : Prop :=
 (∀ vals w, (callFunc f vals).run P w = .ok (.enter f vals) w) ∧
 ∀ (F : Fence) (n : Nat) (c : Cx) (vals : Array Value) (u : FrameMode), WF F → F.round = none → St c → c.h = h → RelL c args vals → MdC c m u →
  CallsDIn F n P f vals u c.w fun e u' w' => ∃ x m' c', e = .returned x ∧ Q m' c'.h ∧ Ev c c' ∧ St c' ∧ c'.w = w' ∧ MdC c' m' u'
def Qh8 (P : Program) (rs : List ResultVar) (h : AH) (Q : AOut → AH → Prop) : List DA → AMode → AS → Prop
 | [], .ret, s => QD P rs h Q .ret s
 | [], .pan v _, s => QD P rs h Q (.panic v) s
 | d :: ds, m, s => Qby P d.1 d.2 s.h m fun m' h' => Qh8 P rs h Q ds m'.settle ⟨s.tm, h'⟩
structure Out (N : Nat) (c : Cx) (s : AS) (tmps : Array Value) : Prop where
 h : c.h = s.h
 size : tmps.size = N
 tm : ∀ t, Rel c (s.tm t) (tmps.getD t undef)
theorem QaB {P : Program} {F : Fence} (hF : WF F) (hro : F.round = none) {n : Nat} {fn : Func} {tmps : Array Value} {rs : List ResultVar} (hrs : fn.results.toList = rs) {Q : AOut → AH → Prop} {c0 : Cx} (hs0 : St c0) :
  ∀ (es : List Ent) (c : Cx) (s : AS) (m : AMode) (u : FrameMode), Ev c0 c → St c → Out fn.ntmps c s tmps → (es.filterMap Ent.mk?).Nodup → (∀ e ∈ es, e.ok c c0.w.heap.size) → MdC c m u → (∀ v, m ≠ .pan v true) →
   Qh8 P rs c0.h Q (es.filterMap Ent.da) m s →
   LeavesInM F n P fn tmps (fun e w' => ∃ o c', Q o c'.h ∧ Ev c0 c' ∧ St c' ∧ c'.w = w' ∧ EndC c' o e) (es.map Ent.dfr) u c.w
 | [], c, s, m, u, hev, hst, hout, _, _, hm, hnr, H => by
  have hsr : SR fn.ntmps (⟨0, []⟩, F) c s { tmps := tmps, defers := [] } := ⟨hout.h, hout.size, Nat.zero_le _, ⟨[], rfl, List.nodup_nil, fun D h => by cases h⟩, fun l hl => (by rw [hro] at hl; cases hl), hout.tm⟩
  cases m with
  | ret =>
   rw [show u = .returning from hm]
   obtain ⟨r, hres, hl⟩ := (show QD P rs c0.h Q .ret s from H)
   subst hrs
   obtain ⟨x, hrun, hx⟩ := ZD hst hsr hres
   rw [← hout.h] at hl
   obtain ⟨c3, r', h1, h2, h3, h4, h5⟩ := Yp hs0 hst hev hx hl
   exact ⟨x, hrun, .ret r', c3, h1, h2, h3, h4, x, rfl, h5⟩
  | pan v b =>
   obtain ⟨x, rfl, hx⟩ := hm
   have hl : Leaves c0.h s.h v fun r h' => Q (.panic r) h' := H
   rw [← hout.h] at hl
   obtain ⟨c3, r', h1, h2, h3, h4, h5⟩ := Yp hs0 hst hev hx hl
   cases b with
   | true => exact absurd rfl (hnr v)
   | false => exact ⟨.panic r', c3, h1, h2, h3, h4, x, rfl, h5⟩
 | .mark D :: es, c, s, m, u, hev, hst, hout, hnd, hok, hm, hnr, H => by
  obtain ⟨hD1, hD2, hD3⟩ := hok (.mark D) (by simp)
  simp only [Qp1, LeavesInM]
  refine ⟨hm.run, .inl ⟨D, _, rfl, Yw hD2, ?_⟩⟩
  have hnd' := List.nodup_cons.1 (show (D :: es.filterMap Ent.mk?).Nodup from hnd)
  have hold : ∀ k, k ≠ D → ({ c.w with heap := c.w.heap.setIfInBounds D (.deferred none) } : World).heap[k]? = c.w.heap[k]? := fun k hk => by
   show (c.w.heap.setIfInBounds D _)[k]? = _
   rw [Array.getElem?_setIfInBounds_ne (fun e => hk e.symm)]
  have hsz : ({ c.w with heap := c.w.heap.setIfInBounds D (.deferred none) } : World).heap.size = c.w.heap.size := by simp
  have hidle : ∀ k, ({ c.w with heap := c.w.heap.setIfInBounds D (.deferred none) } : World).heap[k]? = c.w.heap[k]? ∨ (c0.w.heap.size ≤ k ∧ ¬ c.owns k ∧ ∃ o, c.w.heap[k]? = some (.deferred o)) := fun k => by
   by_cases hk : k = D
   ·subst hk; exact .inr ⟨hD1, hD3, _, hD2⟩
   ·exact .inl (hold k hk)
  have hcells : ∀ (k : Nat) cs t fr, c.w.heap[k]? = some (Obj.cells cs t fr) → ({ c.w with heap := c.w.heap.setIfInBounds D (.deferred none) } : World).heap[k]? = c.w.heap[k]? := fun k cs t fr hk => by
   rcases hidle k with h | ⟨_, _, o, h⟩
   ·exact h
   ·rw [hk] at h; cases h
  have hst2 := hst.idle hsz fun k o hk => by
   rcases hidle k with h | ⟨_, _, d, h⟩
   ·exact .inl (h.trans hk)
   ·rw [hk] at h; cases h; exact .inr ⟨d, rfl⟩
  have hrel : ∀ a x, Rel c a x → Rel (c.to { c.w with heap := c.w.heap.setIfInBounds D (.deferred none) }) a x := fun a x hax => hax.idle hsz hcells
  refine QaB hF hro hrs hs0 es (c.to _) s m u (Ev.idle hst hev rfl rfl rfl hsz hidle) hst2 ⟨hout.h, hout.size, fun t => hrel _ _ (hout.tm t)⟩ hnd'.2 (fun e he => ?_) ?_ hnr H
  ·have := hok e (by simp [he])
   cases e with
   | mark D' =>
    obtain ⟨g1, g2, g3⟩ := this
    have hne : D' ≠ D := fun h => hnd'.1 (by subst h; exact List.mem_filterMap.2 ⟨_, he, rfl⟩)
    exact ⟨g1, (hold D' hne).trans g2, g3⟩
   | call d x =>
    obtain ⟨caps, e, r⟩ := this
    exact ⟨caps, e, r.1, fun j a u h1 h2 => hrel _ _ (r.2 j a u h1 h2)⟩
  ·cases m with
   | ret => exact hm
   | pan v b => obtain ⟨x, e, r⟩ := hm; exact ⟨x, e, hrel _ _ r⟩
 | .call d x :: es, c, s, m, u, hev, hst, hout, hnd, hok, hm, hnr, H => by
  obtain ⟨caps, htar, hargs⟩ := hok (.call d x) (by simp)
  obtain ⟨hcall, hbody⟩ := (show Qby P d.1 d.2 s.h m fun m' h' => Qh8 P rs c0.h Q (es.filterMap Ent.da) m'.settle ⟨s.tm, h'⟩ from H)
  simp only [Qp1, LeavesInM, Ent.dfr]
  refine ⟨hm.run, .inr ⟨fun hd => by simp [hF.depth] at hd, _, _, d.1, x.args ++ caps, htar, by rw [htar]; simp only [invoke, hcall], fun _ _ => hF.fn _, ?_⟩⟩
  refine (hbody F (n - 1) c _ u hF hro hst hout.h hargs hm).mono ?_
  rintro e u' w' ⟨y, m', c', rfl, hQ, hev', hst', rfl, hm'⟩
  refine QaB hF hro hrs hs0 es c' ⟨s.tm, c'.h⟩ m'.settle (Go.settle u') (Ev.trans hs0 hev hev') hst' ⟨rfl, hout.size, fun t => (hout.tm t).ev hst hev'⟩ hnd (fun e he => (hok e (by simp [he])).ev hst hev') hm'.settle (fun v h => ?_) hQ
  cases m' with
  | ret => cases h
  | pan v' b => cases b <;> cases h
def Qna (P : Program) (rs : List ResultVar) (h : AH) (Q : AOut → AH → Prop) : AExit → AS → List DA → Prop
 | .normal, s, ds | .ret, s, ds => Qh8 P rs h Q ds .ret s
 | .panic v, s, ds => Qh8 P rs h Q ds (.pan v false) s
 | .exit _, _, _ => False
theorem QdZ {P : Program} {f : FuncId} {fn : Func} {code : Code} {args : List AV} {h : AH} {Q : AOut → AH → Prop} (hf : P.funcs[f]? = some fn) (hb : fn.body = some code)
  (hcall : ∀ vals w, (callFunc f vals).run P w = .ok (.enter f vals) w) {N : Nat} (hN : fn.ntmps = N) {rs : List ResultVar} (hrs : fn.results.toList = rs) (hn : args.length ≤ N) (H : DefW P N code (Qna P rs h Q) ⟨Qv args, h⟩ []) : Xf P f args h Q := by
 subst hN
 refine ⟨hcall, fun F n c vals hF hs hh hvals => ZQ ?_⟩
 subst hh
 refine callsIn_of_wp_marks hf hb (hF.plain.fn f) ?_
 have hsr : SRd fn.ntmps c.w.heap.size c ⟨Qv args, c.h⟩ { tmps := vals ++ Array.replicate (fn.ntmps - vals.size) undef, defers := [] } [] := by
  refine ⟨rfl, by have := hvals.1; simp; omega, Nat.le_refl _, ⟨[], rfl, rfl, List.nodup_nil, fun e h => by cases h⟩, fun t => ?_⟩
  simp only [Qv]
  rw [Array.getD_eq_getD_getElem?, Array.getElem?_append, List.getD_eq_getElem?_getD]
  have hsz := hvals.1
  by_cases ht : t < vals.size
  ·rw [if_pos ht]
   obtain ⟨u, hu⟩ : ∃ u, vals[t]? = some u := ⟨_, Array.getElem?_eq_getElem ht⟩
   obtain ⟨a, ha⟩ : ∃ a, args[t]? = some a := ⟨_, List.getElem?_eq_getElem (by omega)⟩
   rw [hu, ha]
   exact hvals.2 t a u ha hu
  ·rw [if_neg ht, List.getElem?_eq_none (by omega), Array.getElem?_replicate]
   split
   ·exact .v _
   ·exact .v _
 refine H F.plain n c.w.heap.size c _ hF.plain rfl hs hsr _ ?_
 intro e s' ds' c' a' e' hQ hev hst hr hex
 obtain ⟨es, e1, e2, e3, e4⟩ := hr.defs
 subst e2
 have hout : Out fn.ntmps c' s' a'.tmps := ⟨hr.h, hr.size, hr.tm⟩
 have key := fun (m : AMode) (u : FrameMode) (hm : MdC c' m u) (hnr : ∀ v, m ≠ .pan v true) H => e1 ▸ QaB (P := P) hF.plain rfl (n := n) (fn := fn) (tmps := a'.tmps) hrs (Q := Q) hs es c' s' m u hev hst hout e3 e4 hm hnr H
 cases e with
 | normal => cases hex; exact key .ret .returning rfl (fun v h => by cases h) hQ
 | ret => cases hex; exact key .ret .returning rfl (fun v h => by cases h) hQ
 | panic av =>
  obtain ⟨x, rfl, hx⟩ := hex
  exact key (.pan av false) _ ⟨x, rfl, hx⟩ (fun v h => by cases h) hQ
 | exit id => exact hQ.elim
theorem Z2 {P : Program} {F : Fence} {n : Nat} {fn : Func} {tmps : Array Value} {R : Ending → World → Prop} : ∀ (ds : List Deferred) (u : FrameMode) (w : World) (fr : Frame)
  (cs : List Frame), fr.mode = u → fr.defers = ds → fr.tmps = tmps → P.funcs[fr.fn]? = some fn → fr.kind = .deferred → F.fn fr.fn → F.room (cs.length + 1 + n) → LeavesInM F n P fn tmps R ds u w →
  ∃ e w' fr', R e w' ∧ ComesIn (Machine.fenced P F) P (lone fr cs w) (lone fr' cs w') e ∧ fr'.fn = fr.fn ∧ fr'.kind = .deferred ∧ fr'.going P w' e := by
 intro ds
 induction ds with
 | nil =>
  intro u w fr cs hu hd ht hf hk _ _ h
  cases u with
  | run => exact h.elim
  | returning =>
   obtain ⟨v, hr, hR⟩ := h
   exact ⟨.returned v, w, fr, hR, StepsIn.refl _, rfl, hk, hu, hd, fn, hf, ht ▸ hr⟩
  | panicking chain => exact ⟨.panicked chain, w, fr, h, StepsIn.refl _, rfl, hk, hu, hd, fn, hf⟩
 | cons d ds ih =>
  intro u w fr cs hu hd ht hf hk hb hroom h
  obtain ⟨hrun, h⟩ := h
  rcases h with ⟨r, w', htar, htake, hrest⟩ | ⟨hn, fv, cap, f, args, htar, hinv, hlead, hFf, hcall⟩
  ·have h1 := step_collected (cs := cs) (hu ▸ hrun) hd htar htake
   have i1 : (lone fr cs w).fenced P F := fenced_out hb hroom (hu ▸ hrun) hd (fun g hg => by rw [htar] at hg; simp [Target.leads] at hg)
   obtain ⟨e', w'', fr', hR', hs', hfn', hl'⟩ := ih u w' { fr with defers := [] ++ ds } cs hu rfl ht hf hk hb hroom hrest
   exact ⟨e', w'', fr', hR', ComesIn.of_steps (.one i1 h1) hs', hfn', hl'⟩
  ·have h1 := step_defer (cs := cs) (hu ▸ hrun) hd htar hinv
   have i1 : (lone fr cs w).fenced P F := fenced_out hb hroom (hu ▸ hrun) hd hlead
   have hroom' : F.room (({ fr with defers := ds } :: cs).length + 1 + (n - 1)) := Fence.room_enter hroom hn
   obtain ⟨e, u', w', frX, hR, hsteps, hkX, hfX, hgo⟩ := hcall { fr with defers := ds } cs hu hroom'
   cases e with
   | outgrown => exact ⟨.outgrown, w', fr, hR, Outgrown.of_steps (.one h1) hsteps, rfl, hk, trivial⟩
   | returned v =>
    have i2 : (lone frX ({ { fr with defers := ds } with mode := u' } :: cs) w').fenced P F := fenced_going (n := n - 1) (hfX ▸ hFf) hroom' hgo
    have h2 := step_going_returned (c := { { fr with defers := ds } with mode := u' }) (cs := cs) hkX hgo
    obtain ⟨e', w'', fr', hR', hs', hfn', hl'⟩ := ih (Go.settle u') w' { { { fr with defers := ds } with mode := u' } with mode := Go.settle u' } cs rfl rfl ht hf hk hb hroom hR
    exact ⟨e', w'', fr', hR', ComesIn.of_steps (.head i1 h1 (StepsIn.trans hsteps (.one i2 h2))) hs', hfn', hl'⟩
   | panicked chain =>
    have i2 : (lone frX ({ { fr with defers := ds } with mode := u' } :: cs) w').fenced P F := fenced_going (n := n - 1) (hfX ▸ hFf) hroom' hgo
    have h2 := step_going_panicked (c := { { fr with defers := ds } with mode := u' }) (cs := cs) hgo
    obtain ⟨e', w'', fr', hR', hs', hfn', hl'⟩ := ih (raised u' chain) w' { { { fr with defers := ds } with mode := u' } with mode := raised u' chain } cs rfl rfl ht hf hk hb hroom hR
    exact ⟨e', w'', fr', hR', ComesIn.of_steps (.head i1 h1 (StepsIn.trans hsteps (.one i2 h2))) hs', hfn', hl'⟩
theorem QaN {P : Program} {F : Fence} {n : Nat} {f : FuncId} {fn : Func} {c : Code} {args : Array Value} {u : FrameMode} {w : World} {R : Ending → World → Prop}
  (hf : P.funcs[f]? = some fn) (hb : fn.body = some c) (hF : F.fn f)
  (h : c.wpIn F n P (bodyPostM F n P fn R) { tmps := args ++ Array.replicate (fn.ntmps - args.size) undef, defers := [] } w) (hro : F.round = none) :
  CallsDIn F n P f args u w fun e u' w' => u' = u ∧ R e w' := by
 refine ⟨hF, fun c₀ cs hu hr => ?_⟩
 let b : Frame := { (default : Frame) with fn := f, kind := .deferred, roundOf := none }
 have henter : Frame.enter P f args .deferred =
   b.atR { tmps := args ++ Array.replicate (fn.ntmps - args.size) undef, defers := [] } [.code c] := by
  simp [Frame.enter, Frame.atR, hf, hb, b]
 have hc : ({ c₀ with mode := u } : Frame) = c₀ := by subst hu; rfl
 obtain ⟨e, a', w', hq, harr⟩ := h b [] (c₀ :: cs) hro.symm hF hr
 rw [← henter] at harr
 cases e with
 | normal =>
  obtain ⟨e', w'', fr', hR, hs, hfn, hk, hl⟩ := Z2 a'.defers .returning w' { b.atR a' [] with mode := .returning } (c₀ :: cs) rfl rfl rfl hf rfl hF hr hq
  exact ⟨e', u, w'', fr', ⟨rfl, hR⟩, (by rw [hc]; exact ComesIn.of_steps (StepsIn.trans harr (.one (fenced_calm (fr := b.atR a' []) hF hr rfl) (stepR_end rfl))) hs), hk, hfn, hl⟩
 | ret =>
  obtain ⟨todo, hs₀⟩ := harr.1 rfl
  obtain ⟨e', w'', fr', hR, hs, hfn, hk, hl⟩ := Z2 a'.defers .returning w' { b.atR a' todo with mode := .returning } (c₀ :: cs) rfl rfl rfl hf rfl hF hr hq
  exact ⟨e', u, w'', fr', ⟨rfl, hR⟩, (by rw [hc]; exact ComesIn.of_steps hs₀ hs), hk, hfn, hl⟩
 | panic chain =>
  obtain ⟨todo, hs₀⟩ := harr
  obtain ⟨e', w'', fr', hR, hs, hfn, hk, hl⟩ := Z2 a'.defers (.panicking chain) w' { b.atR a' todo with mode := .panicking chain } (c₀ :: cs) rfl rfl rfl hf rfl hF hr hq
  exact ⟨e', u, w'', fr', ⟨rfl, hR⟩, (by rw [hc]; exact ComesIn.of_steps hs₀ hs), hk, hfn, hl⟩
 | exit id => exact hq.elim
 | goto l => exact hq.elim
 | outgrown => exact ⟨.outgrown, u, w', b, ⟨rfl, hq⟩, harr.resolve_left (by simp [b]), rfl, rfl, trivial⟩
theorem Qde {P : Program} {f : FuncId} {fn : Func} {code : Code} {args : List AV} {h : AH} {Q : AH → Prop} (hf : P.funcs[f]? = some fn) (hb : fn.body = some code)
  (hcall : ∀ vals w, (callFunc f vals).run P w = .ok (.enter f vals) w) {N : Nat} (hN : fn.ntmps = N) {rs : List ResultVar} (hrs : fn.results.toList = rs) (hn : args.length ≤ N)
  (H : DefW P N code (Qna P rs h fun o h' => (∃ r, o = .ret r) ∧ Q h') ⟨Qv args, h⟩ []) (m : AMode) : Qby P f args h m fun m' h' => m' = m ∧ Q h' := by
 subst hN
 refine ⟨hcall, fun F n c vals u hF hro hs hh hvals hm => ?_⟩
 subst hh
 refine (QaN (R := fun e w' => ∃ (o : AOut) (c' : Cx), ((∃ r, o = AOut.ret r) ∧ Q c'.h) ∧ Ev c c' ∧ St c' ∧ c'.w = w' ∧ EndC c' o e) hf hb (hF.fn f) ?_ hro).mono ?_
 ·have hsr : SRd fn.ntmps c.w.heap.size c ⟨Qv args, c.h⟩ { tmps := vals ++ Array.replicate (fn.ntmps - vals.size) undef, defers := [] } [] := by
   refine ⟨rfl, by have := hvals.1; simp; omega, Nat.le_refl _, ⟨[], rfl, rfl, List.nodup_nil, fun e h => by cases h⟩, fun t => ?_⟩
   simp only [Qv]
   rw [Array.getD_eq_getD_getElem?, Array.getElem?_append, List.getD_eq_getElem?_getD]
   have hsz := hvals.1
   by_cases ht : t < vals.size
   ·rw [if_pos ht]
    obtain ⟨u, hu⟩ : ∃ u, vals[t]? = some u := ⟨_, Array.getElem?_eq_getElem ht⟩
    obtain ⟨a, ha⟩ : ∃ a, args[t]? = some a := ⟨_, List.getElem?_eq_getElem (by omega)⟩
    rw [hu, ha]
    exact hvals.2 t a u ha hu
   ·rw [if_neg ht, List.getElem?_eq_none (by omega), Array.getElem?_replicate]
    split
    ·exact .v _
    ·exact .v _
  refine H F n c.w.heap.size c _ hF hro hs hsr _ ?_
  intro e s' ds' c' a' e' hQ hev hst hr hex
  obtain ⟨es, e1, e2, e3, e4⟩ := hr.defs
  subst e2
  have hout : Out fn.ntmps c' s' a'.tmps := ⟨hr.h, hr.size, hr.tm⟩
  have key := fun (m : AMode) (u : FrameMode) (hm : MdC c' m u) (hnr : ∀ v, m ≠ .pan v true) H => e1 ▸ QaB (P := P) hF hro (n := n) (fn := fn) (tmps := a'.tmps) hrs (Q := fun o h' => (∃ r, o = AOut.ret r) ∧ Q h') hs es c' s' m u hev hst hout e3 e4 hm hnr H
  cases e with
  | normal => cases hex; exact key .ret .returning rfl (fun v h => by cases h) hQ
  | ret => cases hex; exact key .ret .returning rfl (fun v h => by cases h) hQ
  | panic av =>
   obtain ⟨x, rfl, hx⟩ := hex
   exact key (.pan av false) _ ⟨x, rfl, hx⟩ (fun v h => by cases h) hQ
  | exit id => exact hQ.elim
 ·rintro e u' w' ⟨rfl, o, c', ⟨⟨r, rfl⟩, hQ⟩, hev, hst', rfl, x, rfl, hx⟩
  exact ⟨x, m, c', rfl, ⟨rfl, hQ⟩, hev, hst', rfl, hm.ev hs hev⟩
theorem QdY {P : Program} {f : FuncId} {fn : Func} {code : Code} {args : List AV} {h : AH} {Q : AH → Prop} (hf : P.funcs[f]? = some fn) (hb : fn.body = some code)
  (hcall : ∀ vals w, (callFunc f vals).run P w = .ok (.enter f vals) w) {N : Nat} (hN : fn.ntmps = N) {rs : List ResultVar} (hrs : fn.results.toList = rs) (hn : args.length ≤ N)
  (H : Xz P N code (QD P rs h fun o h' => (∃ r, o = .ret r) ∧ Q h') ⟨Qv args, h⟩) (m : AMode) : Qby P f args h m fun m' h' => m' = m ∧ Q h' :=
 Qde hf hb hcall hN hrs hn (Qbi (H.mono fun e s hq => by cases e <;> exact hq)) m
end Go.Proofs.YtniljpjjnmkoaaaGreatDoor.Ab
set_option maxRecDepth 4000
namespace Go.Proofs.YtniljpjjnmkoaaaGreatDoor.Ab
open Go.Proofs
def HB (h : AH) (i j : Nat) (u : Bool) (tx : ByteArray) : AH := hs2 h i (bw 162 i j u tx) j (.grow 5 1 tx.size)
theorem wTy : BTy 162 := .inr rfl
abbrev lpa : ByteArray := { data := #[40] }
abbrev rpa : ByteArray := { data := #[41] }
def encB (b : Bool) (x : ByteArray) : ByteArray := if b then lpa ++ x ++ rpa else x
theorem Qby.mono {P : Program} {f : FuncId} {args : List AV} {h : AH} {m : AMode} {Q Q' : AMode → AH → Prop} (H : Qby P f args h m Q) (hq : ∀ m' h', Q m' h' → Q' m' h') : Qby P f args h m Q' :=
 ⟨H.1, fun F n c vals u hF hro hs hh hvals hm => (H.2 F n c vals u hF hro hs hh hvals hm).mono fun e u' w' ⟨x, m', c', h1, h2, h3⟩ => ⟨x, m', c', h1, hq _ _ h2, h3⟩⟩
theorem Qe1 {h : AH} {i j : Nat} (hi : i < h.length) (hj : j < h.length) (hij : i ≠ j) (u : Bool) (tx : ByteArray) (b : UInt8) (hs : tx.size < 140737488355328) (m : AMode) :
  Qby Tryz.prog 152 [.ptr i 0 0, .v (.int .u8 (b.toNat : Nat))] (HB h i j u tx) m fun m' h' => m' = m ∧ h' = HB h i j true (tx ++ { data := #[b] }) := by
 have f1 := fun x y => Yl h i x j y
 have f2 := fun x y => Yu (h := h) hi hij x y
 have f3 := fun x y z => QcH (h := h) (i := i) (j := j) hij x y z
 have f5 := fun x y z => QcE (h := h) (i := i) (j := j) x y z
 have f7 := fun x y => Qar (h := h) (i := i) hj x y
 have c1 := ZS wTy hij u tx h hi hj
 have e1 : Q7 (tx ++ { data := #[b] }) = Q7 tx ++ [.v (.int .u8 (b.toNat : Nat))] := Zl tx _
 have e2 : (tx ++ ({ data := #[b] } : ByteArray)).size = tx.size + 1 := QJ _ _
 have hs' : tx.size + 1 ≤ 140737488355328 := hs
 have hm : tx.size + 1 ≤ maxLen := by simp only [maxLen]; omega
 refine QdY Tryz.func152 rfl Tryz.call152 Tryz.ntmps152 (congrArg Array.toList Tryz.results152) (by simp) ?_ m
 rw [HB, HB, bw1, e1, e2]
 repeat (first | ((first | (with_reducible (first | refine Qa fun K E hK hE => ?_ | refine Qk fun K E hK hE => ?_ | refine FunW.ret (FunW.call c1) ?_))); simp -implicitDefEqProofs only [Qe, Qf, OpW, QK, aop, undef, AS.ev, Qv, AV.QoY, ↓reduceIte, Qm, QA, QB, QO, QH, QM, Xr, XS, zi5, QlN, Qn3, Qn8, QeP, QS, f2, f3, f5, f7, bw1, XE, hm, hs', Nat.mul_one, seval]) | (with_reducible (first | refine Qd fun K hK => ?_ | refine Qi ?_ | refine Qj ?_ | refine Q0 ?_ | refine Q1 ?_ | refine Qn ?_ | refine QC ?_ | refine Qb ?_ | refine Qq ?_ | refine Qw ?_ | refine Qo ?_ | refine Qs ?_ | refine Qy ?_ | refine QU rfl ?_)) | (with_reducible (first | refine hK _ ?_ | (clear hK; refine hK _ ?_) | (clear hK; clear hK; refine hK _ ?_) | (clear hK; clear hK; clear hK; refine hK _ ?_)); clear hK) | (refine Qg rfl ?_; simp only [↓reduceIte, QpQ]) | (intro (b : Bool); cases b))
 simp -implicitDefEqProofs only [Qer, ↓reduceIte, QpS, QD, Ql, Qr, QpW]
 exact .inr ⟨⟨_, rfl⟩, rfl⟩
theorem Qac {h : AH} {i j : Nat} (hi : i < h.length) (hj : j < h.length) (hij : i ≠ j) (need u : Bool) (tx body : ByteArray) {fv r : AV} (hs : tx.size + (encB need body).size ≤ 140737488355328)
  (hw : FunW Tryz.prog fv [] (HB h i j (u || need) (if need then tx ++ lpa else tx)) fun o h' => o = .ret r ∧ h' = HB h i j true ((if need then tx ++ lpa else tx) ++ body)) :
  Xf Tryz.prog 133 [.ptr i 0 0, .b need, fv] (HB h i j u tx) fun o h' => o = .ret (.tup []) ∧ h' = HB h i j true (tx ++ encB need body) := by
 have f2 := fun x y => Yu (h := h) hi hij x y
 have e0 : ∀ u tx, HB h i j u tx = hs2 h i (bw 162 i j u tx) j (.grow 5 1 tx.size) := fun _ _ => rfl
 have f0 : ∀ u tx, (HB h i j u tx)[i]? = some (bw 162 i j u tx) := fun u tx => f2 _ _
 have f1 : ∀ u tx, bw 162 i j u tx = .cells 162 2 [.agg [if u then .ptr i 0 0 else .v (.pointer none), .sl 1 (Q7 tx) (some j)]] := fun _ _ => rfl
 cases need
 ·rw [Bool.or_false, if_neg (by decide)] at hw
  refine Qh Tryz.func133 rfl Tryz.call133 Tryz.ntmps133 (congrArg Array.toList Tryz.results133) (by simp) ?_
  repeat (first | ((first | (with_reducible (first | refine Qa fun K E hK hE => ?_ | refine Qk fun K E hK hE => ?_ | refine FunW.ret hw ?_))); simp -implicitDefEqProofs only [Qe, Qf, OpW, QK, aop, undef, AS.ev, Qv, ↓reduceIte, seval]) | (with_reducible (first | refine Qd fun K hK => ?_ | refine Qi ?_ | refine Qj ?_ | refine Q0 ?_ | refine Q1 ?_ | refine Qn ?_ | refine QC ?_ | refine Qb ?_ | refine Qq ?_ | refine Qw ?_ | refine Qo ?_ | refine Qs ?_ | refine Qy ?_ | refine QU rfl ?_)) | (with_reducible (first | refine hK _ ?_ | (clear hK; refine hK _ ?_) | (clear hK; clear hK; refine hK _ ?_) | (clear hK; clear hK; clear hK; refine hK _ ?_)); clear hK) | (refine Qg rfl ?_; simp only [↓reduceIte, QpQ]) | (intro (b : Bool); cases b))
  simp -implicitDefEqProofs only [QpO, QpS, List.mapM_nil, Option.pure_def, QpO, QD, Ql, QpW]
  exact .inr ⟨rfl, rfl⟩
 ·rw [Bool.or_true, if_pos rfl] at hw
  have hsz : tx.size + body.size + 2 ≤ 140737488355328 := by
   rw [encB, if_pos rfl, QJ, QJ] at hs
   have : lpa.size = 1 := rfl
   have : rpa.size = 1 := rfl
   omega
  have c1 := Qe0 wTy hij u tx 40 (by omega) h hi hj
  rw [← e0, ← e0, show ((UInt8.toNat 40 : Nat) : Int) = 40 from rfl] at c1
  refine QdZ Tryz.func133 rfl Tryz.call133 Tryz.ntmps133 (congrArg Array.toList Tryz.results133) (by simp) ?_
  refine QfF (QfF (Qbi ?_))
  repeat (first | ((first | (with_reducible (first | refine Qa fun K E hK hE => ?_ | refine Qk fun K E hK hE => ?_))); simp -implicitDefEqProofs only [Qe, Qf, OpW, aop, undef, AS.ev, Qv, Nat.reduceLT]) | (with_reducible (first | refine Qd fun K hK => ?_ | refine Qi ?_ | refine Qj ?_ | refine Q0 ?_ | refine Q1 ?_ | refine Qn ?_ | refine QC ?_ | refine Qb ?_ | refine Qq ?_ | refine Qw ?_ | refine Qo ?_ | refine Qs ?_ | refine Qy ?_ | refine QU rfl ?_)) | (with_reducible (first | refine hK _ ?_ | (clear hK; refine hK _ ?_) | (clear hK; clear hK; refine hK _ ?_) | (clear hK; clear hK; clear hK; refine hK _ ?_)); clear hK) | (refine Qg rfl ?_; simp only [↓reduceIte, QpQ]) | (intro (b : Bool); cases b))
  show DefW _ _ _ _ _ _
  refine Qlh rfl (QfF (Qbi ?_))
  repeat (first | ((first | (with_reducible (first | refine Qa fun K E hK hE => ?_ | refine Qk fun K E hK hE => ?_ | refine FunW.ret (FunW.call c1) ?_))); simp -implicitDefEqProofs only [Qe, Qf, OpW, QK, aop, undef, AS.ev, Qv, ↓reduceIte, Qm, XX, QS, f0, f1, seval]) | (with_reducible (first | refine Qd fun K hK => ?_ | refine Qi ?_ | refine Qj ?_ | refine Q0 ?_ | refine Q1 ?_ | refine Qn ?_ | refine QC ?_ | refine Qb ?_ | refine Qq ?_ | refine Qw ?_ | refine Qo ?_ | refine Qs ?_ | refine Qy ?_ | refine QU rfl ?_)) | (with_reducible (first | refine hK _ ?_ | (clear hK; refine hK _ ?_) | (clear hK; clear hK; refine hK _ ?_) | (clear hK; clear hK; clear hK; refine hK _ ?_)); clear hK) | (refine Qg rfl ?_; simp only [↓reduceIte, QpQ]) | (intro (b : Bool); cases b))
  show DefW _ _ _ _ _ _
  refine Qhv 3 rfl rfl rfl ?_
  simp -implicitDefEqProofs only [Qe, Qf, OpW, aop, undef, AS.ev, Qv, ↓reduceIte, Qm, XX, QS, f0, f1, seval]
  refine ⟨_, _, _, rfl, ?_⟩
  show DefW _ _ _ _ _ _
  refine Qbi ?_
  repeat (first | ((first | (with_reducible (first | refine Qa fun K E hK hE => ?_ | refine Qk fun K E hK hE => ?_ | refine FunW.ret hw ?_))); simp -implicitDefEqProofs only [Qe, Qf, OpW, QK, aop, undef, AS.ev, Qv, ↓reduceIte, seval]) | (with_reducible (first | refine Qd fun K hK => ?_ | refine Qi ?_ | refine Qj ?_ | refine Q0 ?_ | refine Q1 ?_ | refine Qn ?_ | refine QC ?_ | refine Qb ?_ | refine Qq ?_ | refine Qw ?_ | refine Qo ?_ | refine Qs ?_ | refine Qy ?_ | refine QU rfl ?_)) | (with_reducible (first | refine hK _ ?_ | (clear hK; refine hK _ ?_) | (clear hK; clear hK; refine hK _ ?_) | (clear hK; clear hK; clear hK; refine hK _ ?_)); clear hK) | (refine Qg rfl ?_; simp only [↓reduceIte, QpQ]) | (intro (b : Bool); cases b))
  simp only [Qna, Qh8]
  refine Qby.mono (Qe1 hi hj hij true ((tx ++ lpa) ++ body) 41 (by rw [QJ, QJ]; have : lpa.size = 1 := rfl; omega) .ret) ?_
  rintro m' h' ⟨rfl, rfl⟩
  simp only [AMode.settle, Qh8]
  simp -implicitDefEqProofs only [QpO, QpS, List.mapM_nil, Option.pure_def, QpO, QD, Ql, QpW]
  exact .inr ⟨rfl, by rw [encB, if_pos rfl, ByteArray.append_assoc, ByteArray.append_assoc, ByteArray.append_assoc]⟩
end Go.Proofs.YtniljpjjnmkoaaaGreatDoor.Ab
set_option maxRecDepth 4000
namespace Go.Proofs.YtniljpjjnmkoaaaGreatDoor.Ab
open Go.Proofs
abbrev Qem : ByteArray := { data := #[44, 32] }
def binT (o : Int) (n : ByteArray) (oa oc : Int) (x y : ByteArray) : ByteArray := (encB ((oa == 1) && (o == 2)) x ++ (({ data := #[32] } : ByteArray) ++ n ++ { data := #[32] })) ++ encB ((oc != 0) && ((oc == 1) || (o == 2))) y
def Zx : Bool → List ByteArray → ByteArray
 | _, [] => .empty
 | f, x :: r => (if f then x else Qem ++ x) ++ Zx false r
def funT (n : ByteArray) (l : List ByteArray) : ByteArray := n ++ encB (decide (0 < l.length)) (Zx true l)
mutual
def T.txt : T → ByteArray
 | .mk k i n l => if (T.mk k i n l).oper ≠ 0 then (match l.map T.oper, txts l with
   | [oa, oc], [x, y] => binT (ofB n) n oa oc x y
   | _, _ => .empty) else
  if k = 0 then decZ i else if k = 1 then vOf (decN i.toNat) else funT n (txts l)
def txts : List T → List ByteArray
 | [] => []
 | t :: l => t.txt :: txts l
end
theorem Qnk (l : List T) : txts l = l.map T.txt := by
 induction l with
 | nil => rfl
 | cons t l ih => rw [txts, ih]; rfl
mutual
def T.lex : T → Prop
 | .mk k i n l => (k = 0 → -9223372036854775807 ≤ i ∧ i ≤ 9223372036854775807) ∧ (k = 1 → 0 ≤ i ∧ i ≤ 1048576) ∧ l.length ≤ 1000000 ∧ n.size ≤ 1000000 ∧ lexL l
def lexL : List T → Prop
 | [] => True
 | t :: l => t.lex ∧ lexL l
end
section
variable {h : AH} {i j : Nat} (hi : i < h.length) (hj : j < h.length) (hij : i ≠ j)
theorem Qet (h : AH) (i j : Nat) (u : Bool) (tx : ByteArray) : (HB h i j u tx).length = h.length := Yl _ _ _ _ _
theorem Qdw (h : AH) (i j : Nat) (u : Bool) (tx : ByteArray) (L : AH) : (HB h i j u tx ++ L)[h.length]? = L[0]? := QmH _ _ _
theorem Qgo (h : AH) (i j : Nat) (u : Bool) (tx : ByteArray) (L : AH) (k : Nat) : (HB h i j u tx ++ L)[h.length + k]? = L[k]? := Qno _ _ _ _
theorem QlT (h : AH) (i j : Nat) (u : Bool) (tx : ByteArray) (z : AB) (L : AH) : (HB h i j u tx ++ L).set h.length z = HB h i j u tx ++ L.set 0 z := Qkn _ _ _ _
theorem QnG (h : AH) (i j : Nat) (u : Bool) (tx : ByteArray) (z : AB) (L : AH) (k : Nat) : (HB h i j u tx ++ L).set (h.length + k) z = HB h i j u tx ++ L.set k z := QlY _ _ _ _ _
include hi hj in
theorem Qiy (u : Bool) (tx : ByteArray) (L : AH) : HB (h ++ L) i j u tx = HB h i j u tx ++ L := Qht hi hj _ _ _
include hi hij in
theorem QcO (u : Bool) (tx : ByteArray) (L : AH) : (HB h i j u tx ++ L)[i]? = some (.cells 162 2 [.agg [if u then .ptr i 0 0 else .v (.pointer none), .sl 1 (Q7 tx) (some j)]]) := QkG hi hij _ _ _
theorem Qom {u u' : Bool} {tx tx' : ByteArray} (hij : i ≠ j) (H : Xw (HB h i j u tx)) : Xw (HB h i j u' tx') := by
 obtain ⟨k, ty, fr, e⟩ := H
 refine ⟨k, ty, fr, ?_⟩
 have hk := QF e
 rw [Qet] at hk
 by_cases h1 : i = k
 ·subst h1; rw [HB, Yu hk hij] at e; cases e
 ·by_cases h2 : j = k
  ·subst h2; rw [HB, Qar hk] at e; cases e
  ·rw [HB, Y1 _ _ h1 h2] at e ⊢; exact e
theorem Xv {u u' : Bool} {tx tx' : ByteArray} {L : AH} {r r' : AV} {Q : AV → AH → Prop} (hi : i < h.length) (hj : j < h.length) (hij : i ≠ j) (hf : Frz (HB h i j u' tx' ++ L) h.length r r') (hq : Q r' (HB h i j u' tx')) : Leaves (HB h i j u tx) (HB h i j u' tx' ++ L) r Q :=
 Qja hij (Qms hi hj) trivial hf hq
end
def Wri (f : FuncId) (args : List AV) (h : AH) (i j : Nat) (u : Bool) (tx add : ByteArray) : Prop :=
 Xf Tryz.prog f args (HB h i j u tx) fun o h' => o = .ret (.tup []) ∧ h' = HB h i j true (tx ++ add)
theorem wstr {h : AH} {i j : Nat} (hi : i < h.length) (hj : j < h.length) (hij : i ≠ j) (u : Bool) (tx s : ByteArray) (hs : tx.size + s.size ≤ 140737488355328) :
  Xf Tryz.prog 106 [.ptr i 0 0, .v (.string s)] (HB h i j u tx) fun o h' => o = .ret (.tup [.i s.size, .v .nilIface]) ∧ h' = HB h i j true (tx ++ s) :=
 QdH wTy hij u tx s hs h hi hj
theorem YR {p : Prop} (h : 2 = 3) : p := by cases h
theorem Qj7 {G G' : AH} {p q i : Nat} {t a : T} {r : AV} (hp : G[p]? = some (.cells 129 1 [.ptr i 0 0])) (hq : G[q]? = some (.cells 41 4 [t.av])) (ha : t.args[0]? = some a)
  (H : Xf Tryz.prog 102 [.ptr i 0 0, a.av] G fun o h' => o = .ret r ∧ h' = G') :
  Xf Tryz.prog 134 [.ptr p 0 0, .ptr q 0 0] G fun o h' => o = .ret (.tup []) ∧ h' = G' := by
 have e1 : t.av = .agg [.i t.kind, .i t.int, .v (.string t.name), .sl 4 (avs t.args) none] := by cases t; rfl
 have hlt : 0 < t.args.length := QF ha
 have hz : (0 : Int) < t.args.length := by omega
 have hg := Q3 hlt
 have ea : t.args[0] = a := by rw [List.getElem?_eq_getElem hlt] at ha; injection ha
 rw [ea] at hg
 rw [e1] at hq
 refine Qh Tryz.func134 rfl Tryz.call134 Tryz.ntmps134 (congrArg Array.toList Tryz.results134) (by simp) ?_
 repeat (first | ((first | (with_reducible refine Xt (FunW.call H) YR ?_) | (refine QG (id := 0) [(0, 0), (1, 0), (2, 0), (3, 0), (4, 0), (5, 2)] mixed (by kernel_rfl) fun K hK => ?_)); simp -implicitDefEqProofs only [Qe, Qf, aop, undef, AS.ev, Qv, ↓reduceIte, Qm, QA, QB, Qt, ti29, ei29, ti41, Xc, Zq, Qqz, hp, hq, hz, hg, seval]) | ((with_reducible refine hK _ ?_); clear hK))
 simp -implicitDefEqProofs only [QpO, QpS, List.mapM_nil, Option.pure_def, QpO, QD, Ql, QpW]
 exact .inr ⟨rfl, rfl⟩
theorem Qlm {G G' : AH} {p q i : Nat} {t a : T} {r : AV} (hp : G[p]? = some (.cells 129 1 [.ptr i 0 0])) (hq : G[q]? = some (.cells 41 4 [t.av])) (ha : t.args[1]? = some a)
  (H : Xf Tryz.prog 102 [.ptr i 0 0, a.av] G fun o h' => o = .ret r ∧ h' = G') :
  Xf Tryz.prog 135 [.ptr p 0 0, .ptr q 0 0] G fun o h' => o = .ret (.tup []) ∧ h' = G' := by
 have e1 : t.av = .agg [.i t.kind, .i t.int, .v (.string t.name), .sl 4 (avs t.args) none] := by cases t; rfl
 have hlt : 1 < t.args.length := QF ha
 have hz : (1 : Int) < t.args.length := by omega
 have z1 : (0 : Int) ≤ 1 := by decide
 have hg := Q3 hlt
 have ea : t.args[1] = a := by rw [List.getElem?_eq_getElem hlt] at ha; injection ha
 rw [ea] at hg
 rw [e1] at hq
 refine Qh Tryz.func135 rfl Tryz.call135 Tryz.ntmps135 (congrArg Array.toList Tryz.results135) (by simp) ?_
 repeat (first | ((first | (with_reducible refine Xt (FunW.call H) YR ?_) | (refine QG (id := 0) [(0, 0), (1, 0), (2, 0), (3, 0), (4, 0), (5, 2)] mixed (by kernel_rfl) fun K hK => ?_)); simp -implicitDefEqProofs only [Qe, Qf, aop, undef, AS.ev, Qv, ↓reduceIte, Qm, QA, QB, Qt, ti29, ei29, ti41, Xc, Zq, hp, hq, hz, z1, hg, seval]) | ((with_reducible refine hK _ ?_); clear hK))
 simp -implicitDefEqProofs only [QpO, QpS, List.mapM_nil, Option.pure_def, QpO, QD, Ql, QpW]
 exact .inr ⟨rfl, rfl⟩
theorem Qjk (f : Bool) (l : List ByteArray) : ∀ x r, l = x :: r → (Zx f l).size = (if f then 0 else 2) + x.size + (Zx false r).size := by
 rintro x r rfl
 rw [Zx, QJ]
 cases f
 ·simp only [QpQ, if_false, QJ]; have : Qem.size = 2 := rfl; omega
 ·simp
theorem QgD {h : AH} {i j : Nat} (hi : i < h.length) (hj : j < h.length) (hij : i ≠ j) (l : List T) {p q : Nat} (hp : p < h.length) (hq : q < h.length) (hpi : i ≠ p) (hpj : j ≠ p) (hqi : i ≠ q) (hqj : j ≠ q)
  (gp : h[p]? = some (.cells 129 1 [.ptr i 0 0])) (gq : h[q]? = some (.cells 29 1 [.sl 4 (avs l) none])) (hl : l.length ≤ 1000000)
  (ih : ∀ t ∈ l, ∀ (h : AH), i < h.length → j < h.length → Xw (HB h i j true (.empty)) → ∀ tx : ByteArray, tx.size + t.txt.size ≤ 140737488355328 → Wri 102 [.ptr i 0 0, t.av] h i j true tx t.txt)
  (hG : Xw (HB h i j true (.empty))) (tx : ByteArray) (hs : tx.size + (Zx true (txts l)).size ≤ 140737488355328) :
  Wri 136 [.ptr q 0 0, .ptr p 0 0] h i j true tx (Zx true (txts l)) := by
 have k0 : ∀ u tx L, (HB h i j u tx ++ L)[p]? = some (.cells 129 1 [.ptr i 0 0]) := fun u tx L => by
  rw [List.getElem?_append_left (by rw [Qet]; exact hp), HB, Y1 _ _ hpi hpj, gp]
 have k1 : ∀ u tx, (HB h i j u tx)[q]? = some (.cells 29 1 [.sl 4 (avs l) none]) := fun u tx => by
  rw [HB, Y1 _ _ hqi hqj, gq]
 have f1 := Qet h i j
 have f2 := fun u tx L => Qdw h i j u tx L
 have f3 := fun u tx L => Qgo h i j u tx L
 have f4 := fun u tx z L => QlT h i j u tx z L
 have f5 := fun u tx z L => QnG h i j u tx z L
 have f6 := fun u tx L => QcO (h := h) hi hij u tx L
 refine Qh Tryz.func136 rfl Tryz.call136 Tryz.ntmps136 (congrArg Array.toList Tryz.results136) (by simp) ?_
 repeat (first | (((with_reducible refine Qa fun K E hK hE => ?_)); simp -implicitDefEqProofs only [Qe, Qf, OpW, aop, undef, AS.ev, Qv, ↓reduceIte, Nat.reduceLT, QA, QB, aLen, goInt, ti29, un29, k1]) | (with_reducible refine Qi ?_) | ((with_reducible refine hK _ ?_); clear hK))
 obtain ⟨I, hI⟩ : ∃ I : Nat → AS → Prop, I = fun m' s => ∃ (k : Nat) (cur : ByteArray), m' = l.length - k ∧ k ≤ l.length ∧ cur ++ Zx (decide (k = 0)) (txts (l.drop k)) = tx ++ Zx true (txts l) ∧ s.tm 0 = .ptr q 0 0 ∧ s.tm 1 = .ptr p 0 0 ∧ s.tm 4 = .sl 4 (avs l) none ∧ s.tm 5 = .i l.length ∧ s.tm 6 = .i k ∧ (∃ L, s.h = HB h i j true cur ++ L) := ⟨_, rfl⟩; refine QI I ?_ (m := l.length) ?_
 ·intro m' s hs; rw [hI] at hs; obtain ⟨tm, hp⟩ := s; dsimp only at hs; obtain ⟨k, cur, rfl, hk, he, t0, t1, t4, t5, t6, L, rfl⟩ := hs
  by_cases hlt : k < l.length
  ·have hg := Q3 hlt
   have z1 : (k : Int) < l.length := by omega
   have hsz : cur.size + (Zx (decide (k = 0)) (txts (l.drop k))).size = tx.size + (Zx true (txts l)).size := by rw [← QJ, he, QJ]
   have hd : txts (l.drop k) = (l[k]).txt :: txts (l.drop (k + 1)) := by rw [List.drop_eq_getElem_cons hlt]; rfl
   have hcm : Qem.size = 2 := rfl
   rw [hd, Zx, QJ] at hsz
   rw [hd, Zx] at he
   have gapp := fun (u : Bool) (tx : ByteArray) (L : AH) => Qiy (h := h) (i := i) (j := j) hi hj u tx L
   have glen : ∀ L : AH, i < (h ++ L).length ∧ j < (h ++ L).length := fun L => by rw [List.length_append]; omega
   by_cases hk0 : k = 0
   ·rw [decide_eq_true hk0, if_pos rfl] at hsz he
    have z2 : ¬ (k : Int) > 0 := by omega
    have c := ih l[k] (List.getElem_mem hlt) (h ++ (L ++ [AB.cells 41 4 [l[k].av]])) (glen _).1 (glen _).2 (by rw [gapp]; exact HasG.app hG _) cur (by omega)
    rw [Wri, gapp, gapp] at c
    repeat (first | ((first | (with_reducible (first | refine Qa fun K E hK hE => ?_ | refine Qk fun K E hK hE => ?_ | refine FunW.ret (FunW.call c) ?_))); simp -implicitDefEqProofs only [Qe, Qf, OpW, QK, aop, undef, AS.ev, AV.QoY, ↓reduceIte, QA, QB, QO, QH, Qt, aBin, ei29, ti41, zi41, Zq, t1, t4, t5, t6, z1, z2, hg, k0, f1, f3, f5, seval]) | (with_reducible (first | refine Qd fun K hK => ?_ | refine Qi ?_ | refine Qn ?_ | refine Qb ?_ | refine Qo ?_)) | ((with_reducible refine hK _ ?_); clear hK) | (refine Qg rfl ?_; simp only [↓reduceIte, QpQ]))
    refine QV.mk (m' := l.length - (k + 1)) (by omega) ?_
    rw [hI]
    refine ⟨k + 1, cur ++ (l[k]).txt, rfl, hlt, ?_, t0, t1, t4, t5, ?_, _, rfl⟩
    ·rw [decide_eq_false (Nat.succ_ne_zero k), ByteArray.append_assoc]; exact he
    ·simp only [upd, ↓reduceIte]
     rw [QP (by omega)]
   ·rw [decide_eq_false hk0, if_neg (by decide), QJ] at hsz
    rw [decide_eq_false hk0, if_neg (by decide)] at he
    have z2 : (k : Int) > 0 := by omega
    have c1 := wstr (h := h ++ (L ++ [AB.cells 41 4 [l[k].av]])) (glen _).1 (glen _).2 hij true cur Qem (by omega)
    rw [gapp, gapp] at c1
    have c := ih l[k] (List.getElem_mem hlt) (h ++ (L ++ [AB.cells 41 4 [l[k].av]])) (glen _).1 (glen _).2 (by rw [gapp]; exact HasG.app hG _) (cur ++ Qem) (by rw [QJ]; omega)
    rw [Wri, gapp, gapp] at c
    repeat (first | ((first | (with_reducible (first | refine Qa fun K E hK hE => ?_ | refine Qk fun K E hK hE => ?_ | refine FunW.ret (FunW.call c) ?_ | refine FunW.ret (FunW.call c1) ?_))); simp -implicitDefEqProofs only [Qe, Qf, OpW, QK, aop, undef, AS.ev, AV.QoY, ↓reduceIte, Qm, QA, QB, QO, QH, Qt, aBin, ei29, ti41, zi41, Zq, XX, QS, t1, t4, t5, t6, z1, z2, hg, k0, f1, f3, f5, f6, seval]) | (with_reducible (first | refine Qd fun K hK => ?_ | refine Qi ?_ | refine Qn ?_ | refine Qb ?_ | refine Qo ?_)) | ((with_reducible refine hK _ ?_); clear hK) | (refine Qg rfl ?_; simp only [↓reduceIte]))
    refine QV.mk (m' := l.length - (k + 1)) (by omega) ?_
    rw [hI]
    refine ⟨k + 1, (cur ++ Qem) ++ (l[k]).txt, rfl, hlt, ?_, t0, t1, t4, t5, ?_, _, rfl⟩
    ·rw [decide_eq_false (Nat.succ_ne_zero k)]; simp only [ByteArray.append_assoc] at he ⊢; exact he
    ·simp only [upd, ↓reduceIte]
     rw [QP (by omega)]
  ·have hkn : k = l.length := by omega
   subst hkn
   have z1 : ¬ ((l.length : Nat) : Int) < l.length := by omega
   rw [List.drop_length, txts, Zx, ByteArray.append_empty] at he
   repeat (first | (((with_reducible refine Qa fun K E hK hE => ?_)); simp -implicitDefEqProofs only [Qe, Qf, OpW, aop, AS.ev, Nat.reduceLT, aBin, t5, t6, z1]) | (with_reducible (first | refine Qd fun K hK => ?_ | refine QC ?_ | refine Qw ?_ | refine Qy ?_)) | ((with_reducible refine hK _ ?_); clear hK) | (refine Qg rfl ?_; simp only [↓reduceIte, QpQ]))
   simp -implicitDefEqProofs only [QpO, QpS, List.mapM_nil, Option.pure_def, QpO, QD, Ql, QpW]
   exact Xv hi hj hij (.keep (.tup _ fun x hx => by cases hx)) ⟨rfl, by rw [he]⟩
 ·rw [hI]
  exact ⟨0, tx, rfl, by omega, rfl, rfl, rfl, rfl, rfl, rfl, [], (List.append_nil _).symm⟩
theorem QdP (l : List T) : (txts l).length = l.length := by rw [Qnk, List.length_map]
theorem Qc3 {h : AH} {i j : Nat} (hi : i < h.length) (hj : j < h.length) (hij : i ≠ j) (l : List T) (hl : l.length ≤ 1000000) (s : ByteArray)
  (ih : ∀ t ∈ l, ∀ (h : AH), i < h.length → j < h.length → Xw (HB h i j true (.empty)) → ∀ tx : ByteArray, tx.size + t.txt.size ≤ 140737488355328 → Wri 102 [.ptr i 0 0, t.av] h i j true tx t.txt)
  (hG : Xw (HB h i j true (.empty))) (u : Bool) (tx : ByteArray) (hs : tx.size + (funT s (txts l)).size ≤ 140737488355328) :
  Wri 104 [.ptr i 0 0, .v (.string s), .sl 4 (avs l) none] h i j u tx (funT s (txts l)) := by
 obtain ⟨L, hL⟩ : ∃ L : AH, L = [AB.cells 129 1 [.ptr i 0 0], AB.cells 29 1 [.sl 4 (avs l) none]] := ⟨_, rfl⟩
 have hlL : (h ++ L).length = h.length + 2 := by rw [hL]; simp
 have hi' : i < (h ++ L).length := by omega
 have hj' : j < (h ++ L).length := by omega
 have gapp := fun (u : Bool) (tx : ByteArray) (L : AH) => Qiy (h := h) (i := i) (j := j) hi hj u tx L
 have hsz : (funT s (txts l)).size = s.size + (encB (decide (0 < (txts l).length)) (Zx true (txts l))).size := by rw [funT, QJ]
 rw [QdP] at hsz
 obtain ⟨body, hbody⟩ : ∃ b, b = Zx true (txts l) := ⟨_, rfl⟩
 rw [← hbody] at hsz
 have hbs : body.size ≤ (encB (decide (0 < l.length)) body).size := by
  rw [encB]; split
  ·rw [QJ, QJ]; omega
  ·exact Nat.le_refl _
 have c1 := wstr (h := h ++ L) hi' hj' hij u tx s (by omega)
 rw [gapp, gapp, hL] at c1
 have gp : (h ++ L)[h.length]? = some (.cells 129 1 [.ptr i 0 0]) := by rw [hL]; simp
 have gq : (h ++ L)[h.length + 1]? = some (.cells 29 1 [.sl 4 (avs l) none]) := by rw [hL]; simp
 have hn : decide ((l.length : Int) > 0) = decide (0 < l.length) := by rw [Bool.eq_iff_iff]; simp
 have hx : ((if decide (0 < l.length) = true then tx ++ s ++ lpa else tx ++ s)).size + body.size ≤ 140737488355328 := by
  by_cases h0 : 0 < l.length
  ·rw [if_pos (decide_eq_true h0), QJ, QJ]
   rw [encB, if_pos (decide_eq_true h0), QJ, QJ] at hsz
   omega
  ·rw [if_neg (by simpa using h0), QJ]
   omega
 have hw := QgD (h := h ++ L) hi' hj' hij l (p := h.length) (q := h.length + 1) (by omega) (by omega) (by omega) (by omega) (by omega) (by omega) gp gq hl ih (by rw [gapp]; exact HasG.app hG _)
  (if decide (0 < l.length) = true then tx ++ s ++ lpa else tx ++ s) (by rw [← hbody]; exact hx)
 rw [← hbody] at hw
 have c2 := Qac (h := h ++ L) hi' hj' hij (decide (0 < l.length)) true (tx ++ s) body (fv := .fn (.func 136) [] [.ptr (h.length + 1) 0 0, .ptr h.length 0 0]) (by rw [QJ]; omega) (FunW.fn hw)
 rw [gapp, gapp, hL] at c2
 have f2 := fun u tx L => Qdw h i j u tx L
 have f3 := fun u tx L => Qgo h i j u tx L
 have f6 := fun u tx L => QcO (h := h) hi hij u tx L
 have f1 := Qet h i j
 refine Qh Tryz.func104 rfl Tryz.call104 Tryz.ntmps104 (congrArg Array.toList Tryz.results104) (by simp) ?_
 repeat (first | ((first | (with_reducible (first | refine Qa fun K E hK hE => ?_ | refine Qk fun K E hK hE => ?_ | refine FunW.ret (FunW.call c1) ?_ | refine FunW.ret (FunW.call c2) ?_))); simp -implicitDefEqProofs only [Qe, Qf, OpW, QK, aop, undef, AS.ev, Qv, AV.QoY, ↓reduceIte, Qm, QA, QB, aBin, aLen, goInt, ti29, un29, Zq, XX, QS, f1, f2, f3, f6, hn, seval]) | ((with_reducible refine hK _ ?_); clear hK))
 simp -implicitDefEqProofs only [QpO, QpS, List.mapM_nil, Option.pure_def, QpO, QD, Ql, QpW]
 exact Xv hi hj hij (.keep (.tup _ fun x hx => by cases hx)) ⟨rfl, by rw [funT, QdP, ← hbody, ByteArray.append_assoc]⟩
end Go.Proofs.YtniljpjjnmkoaaaGreatDoor.Ab
set_option maxRecDepth 4000
namespace Go.Proofs.YtniljpjjnmkoaaaGreatDoor.Ab
open Go.Proofs
def TIh (i j : Nat) (t : T) : Prop := ∀ (h : AH), i < h.length → j < h.length → Xw (HB h i j true (.empty)) → ∀ (u : Bool) (tx : ByteArray), tx.size + t.txt.size ≤ 140737488355328 → Wri 102 [.ptr i 0 0, t.av] h i j u tx t.txt
theorem Qk6 (b : Bool) (x tx : ByteArray) : (if b = true then tx ++ lpa else tx).size + x.size ≤ tx.size + (encB b x).size := by
 rw [encB]; split
 ·rw [QJ, QJ, QJ]; omega
 ·exact Nat.le_refl _
theorem QmM {h : AH} {i j : Nat} (hi : i < h.length) (hj : j < h.length) (hij : i ≠ j) (n : ByteArray) (x : Int) (a c : T) (hn : n.size ≤ 1000000) (ho : ofB n ≠ 0) (hla : a.args.length ≤ 1000000) (hlc : c.args.length ≤ 1000000) (iha : TIh i j a) (ihc : TIh i j c)
  (hG : Xw (HB h i j true (.empty))) (u : Bool) (tx : ByteArray) (hs : tx.size + (binT (ofB n) n a.oper c.oper a.txt c.txt).size ≤ 140737488355328) :
  Wri 102 [.ptr i 0 0, (T.mk 2 x n [a, c]).av] h i j u tx (binT (ofB n) n a.oper c.oper a.txt c.txt) := by
 obtain ⟨t, ht⟩ : ∃ t, t = T.mk 2 x n [a, c] := ⟨_, rfl⟩
 have eo : t.oper = ofB n := by rw [ht]; rfl
 have eav : t.av = .agg [.i 2, .i x, .v (.string n), .sl 4 (avs [a, c]) none] := by rw [ht]; rfl
 obtain ⟨L, hL⟩ : ∃ L : AH, L = [AB.cells 129 1 [.ptr i 0 0], AB.cells 41 4 [t.av]] := ⟨_, rfl⟩
 have hlL : (h ++ L).length = h.length + 2 := by rw [hL]; simp
 have hi' : i < (h ++ L).length := by omega
 have hj' : j < (h ++ L).length := by omega
 have gapp := fun (u : Bool) (tx : ByteArray) (L : AH) => Qiy (h := h) (i := i) (j := j) hi hj u tx L
 have hG' : Xw (HB (h ++ L) i j true (.empty)) := by rw [gapp]; exact HasG.app hG _
 have gp : ∀ u tx, (HB (h ++ L) i j u tx)[h.length]? = some (.cells 129 1 [.ptr i 0 0]) := fun u tx => by rw [gapp, Qdw, hL]; rfl
 have gq : ∀ u tx, (HB (h ++ L) i j u tx)[h.length + 1]? = some (.cells 41 4 [t.av]) := fun u tx => by rw [gapp, Qgo, hL]; rfl
 have ct := Qax t (by rw [ht]; simp [maxLen, T.args])
 rw [eo, eav] at ct
 have ca := Qax a (by simp only [maxLen]; omega)
 have cc := Qax c (by simp only [maxLen]; omega)
 obtain ⟨o, eoo⟩ : ∃ o, o = ofB n := ⟨_, rfl⟩
 obtain ⟨oa, eoa⟩ : ∃ o, o = a.oper := ⟨_, rfl⟩
 obtain ⟨oc, eoc⟩ : ∃ o, o = c.oper := ⟨_, rfl⟩
 rw [← eoo] at ct
 rw [← eoa] at ca
 rw [← eoc] at cc
 rw [← eoo, ← eoa, ← eoc] at hs ⊢
 rw [← eoo] at ho
 have hm := hs
 simp only [binT, QJ] at hm
 have hsp : ({ data := #[32] } : ByteArray).size = 1 := rfl
 -- the first operand
 have hw1 := fun (u : Bool) (q : Bool) (tx' : ByteArray) (hq : tx'.size + a.txt.size ≤ 140737488355328) => Qj7 (p := h.length) (q := h.length + 1) (t := t) (a := a) (gp u tx') (gq u tx') (by rw [ht]; rfl) (iha (h ++ L) hi' hj' hG' u tx' hq)
 have hw2 := fun (u : Bool) (q : Bool) (tx' : ByteArray) (hq : tx'.size + c.txt.size ≤ 140737488355328) => Qlm (p := h.length) (q := h.length + 1) (t := t) (a := c) (gp u tx') (gq u tx') (by rw [ht]; rfl) (ihc (h ++ L) hi' hj' hG' u tx' hq)
 have e1 := Qk6 ((oa == 1) && (o == 2)) a.txt tx
 have c1 := Qac (h := h ++ L) hi' hj' hij ((oa == 1) && (o == 2)) u tx a.txt (fv := .fn (.func 134) [] [.ptr h.length 0 0, .ptr (h.length + 1) 0 0]) (by omega) (FunW.fn (hw1 _ true _ (by omega)))
 obtain ⟨tx1, etx1⟩ : ∃ z, z = tx ++ encB ((oa == 1) && (o == 2)) a.txt := ⟨_, rfl⟩
 rw [← etx1] at c1
 have hsz1 : tx1.size = tx.size + (encB ((oa == 1) && (o == 2)) a.txt).size := by rw [etx1, QJ]
 have c2 := wstr (h := h ++ L) hi' hj' hij true tx1 (({ data := #[32] } : ByteArray) ++ n ++ { data := #[32] }) (by simp only [QJ]; omega)
 obtain ⟨tx2, etx2⟩ : ∃ z, z = tx1 ++ (({ data := #[32] } : ByteArray) ++ n ++ { data := #[32] }) := ⟨_, rfl⟩
 rw [← etx2] at c2
 have hsz2 : tx2.size = tx1.size + (1 + n.size + 1) := by rw [etx2]; simp only [QJ, hsp]
 have e3 := Qk6 ((oc != 0) && ((oc == 1) || (o == 2))) c.txt tx2
 have c3 := Qac (h := h ++ L) hi' hj' hij ((oc != 0) && ((oc == 1) || (o == 2))) true tx2 c.txt (fv := .fn (.func 135) [] [.ptr h.length 0 0, .ptr (h.length + 1) 0 0]) (by omega) (FunW.fn (hw2 _ true _ (by omega)))
 have efin : tx2 ++ encB ((oc != 0) && ((oc == 1) || (o == 2))) c.txt = tx ++ binT o n oa oc a.txt c.txt := by
  rw [etx2, etx1, binT]; simp only [ByteArray.append_assoc]
 rw [efin] at c3
 rw [gapp, gapp, hL, eav] at c1 c2 c3
 have f1 := Qet h i j
 have f2 := fun u tx L => Qdw h i j u tx L
 have f3 := fun u tx L => Qgo h i j u tx L
 have f6 := fun u tx L => QcO (h := h) hi hij u tx L
 have hsa1 := fun xo yo => ZY Tryz.prog 9 xo yo ({ data := #[32] } : ByteArray) n (by omega)
 have hsa2 := fun xo yo => ZY Tryz.prog 9 xo yo (({ data := #[32] } : ByteArray) ++ n) { data := #[32] } (by rw [QJ]; omega)
 have ga : (avs [a, c])[0]? = some a.av := rfl
 have gc : (avs [a, c])[1]? = some c.av := rfl
 have hav : (T.mk 2 x n [a, c]).av = .agg [.i 2, .i x, .v (.string n), .sl 4 (avs [a, c]) none] := rfl
 have ho' : (o != 0) = true := by simpa using ho
 rw [hav]
 have hll : (avs [a, c]).length = 2 := rfl
 have z0 : ((0 : Int) ≤ 1) = True := by simp
 have z1 : ((0 : Int) < ((2 : Nat) : Int)) = True := by simp
 have z2 : ((1 : Int) < ((2 : Nat) : Int)) = True := by simp
 obtain ⟨q1, eq1⟩ : ∃ z, z = ((oa == 1) && (o == 2)) := ⟨_, rfl⟩
 obtain ⟨q3, eq3⟩ : ∃ z, z = ((oc != 0) && ((oc == 1) || (o == 2))) := ⟨_, rfl⟩
 rw [← eq1] at c1
 rw [← eq3] at c3
 cases b1 : (oa == 1)
 ·cases b2 : (o == 2)
  ·cases b3 : (oc != 0)
   ·have hq1 : q1 = false := by rw [eq1, b1, b2]; rfl
    have hq3 : q3 = false := by rw [eq3, b2, b3]; rfl
    rw [hq1] at c1
    rw [hq3] at c3
    refine Qh Tryz.func102 rfl Tryz.call102 Tryz.ntmps102 (congrArg Array.toList Tryz.results102) (by simp) ?_
    repeat (first | ((first | (with_reducible (first | refine Qa fun K E hK hE => ?_ | refine Qk fun K E hK hE => ?_ | refine Qp ct ?_ | refine Qz ca ?_ | refine Qz cc ?_ | refine FunW.ret (FunW.call c1) ?_ | refine FunW.ret (FunW.call c3) ?_ | refine Xt (FunW.call c2) YR ?_)) | (refine Qu (id := 4) [(0, 0), (1, 0), (2, 0), (3, 0), (4, 1), (5, 0), (6, 0), (7, 0), (8, 0), (9, 1), (10, 0), (11, 0)] mixed (by kernel_rfl) fun K hK => ?_) | (refine Qu (id := 6) [(0, 0), (1, 0), (2, 0), (3, 0), (4, 0), (5, 0), (6, 0), (7, 2)] mixed (by kernel_rfl) fun K hK => ?_)); simp -implicitDefEqProofs only [Qe, Qf, OpW, QK, aop, undef, AS.ev, Qv, AV.QoY, ↓reduceIte, Qm, QA, QB, Qt, aBin, ti9, ti29, ei29, ti41, Xl, Xc, Zq, XX, Qqz, QS, f1, f2, f3, f6, ho', hll, ga, gc, z0, z1, z2, b1, b3, hsa1, hsa2, seval]) | (with_reducible (first | refine Qi ?_ | refine Qo ?_)) | ((with_reducible refine hK _ ?_); clear hK) | (refine Qg rfl ?_; simp only [↓reduceIte]))
    simp -implicitDefEqProofs only [QpO, QpS, List.mapM_nil, Option.pure_def, QpO, QD, Ql, QpW]
    exact Xv hi hj hij (.keep (.tup _ fun x hx => by cases hx)) ⟨rfl, rfl⟩
   ·cases b4 : (oc == 1)
    ·have hq1 : q1 = false := by rw [eq1, b1, b2]; rfl
     have hq3 : q3 = false := by rw [eq3, b2, b3, b4]; rfl
     rw [hq1] at c1
     rw [hq3] at c3
     refine Qh Tryz.func102 rfl Tryz.call102 Tryz.ntmps102 (congrArg Array.toList Tryz.results102) (by simp) ?_
     repeat (first | ((first | (with_reducible (first | refine Qa fun K E hK hE => ?_ | refine Qk fun K E hK hE => ?_ | refine Qp ct ?_ | refine Qz ca ?_ | refine Qz cc ?_ | refine FunW.ret (FunW.call c1) ?_ | refine FunW.ret (FunW.call c3) ?_ | refine Xt (FunW.call c2) YR ?_)) | (refine Qu (id := 4) [(0, 0), (1, 0), (2, 0), (3, 0), (4, 1), (5, 0), (6, 0), (7, 0), (8, 0), (9, 1), (10, 0), (11, 0)] mixed (by kernel_rfl) fun K hK => ?_) | (refine Qu (id := 6) [(0, 0), (1, 0), (2, 0), (3, 0), (4, 0), (5, 0), (6, 0), (7, 2)] mixed (by kernel_rfl) fun K hK => ?_)); simp -implicitDefEqProofs only [Qe, Qf, OpW, QK, aop, undef, AS.ev, Qv, AV.QoY, ↓reduceIte, Qm, QA, QB, Qt, aBin, ti9, ti29, ei29, ti41, Xl, Xc, Zq, XX, Qqz, QS, f1, f2, f3, f6, ho', hll, ga, gc, z0, z1, z2, b1, b2, b3, b4, hsa1, hsa2, seval]) | (with_reducible (first | refine Qi ?_ | refine Qo ?_)) | ((with_reducible refine hK _ ?_); clear hK) | (refine Qg rfl ?_; simp only [↓reduceIte]))
     simp -implicitDefEqProofs only [QpO, QpS, List.mapM_nil, Option.pure_def, QpO, QD, Ql, QpW]
     exact Xv hi hj hij (.keep (.tup _ fun x hx => by cases hx)) ⟨rfl, rfl⟩
    ·have hq1 : q1 = false := by rw [eq1, b1, b2]; rfl
     have hq3 : q3 = true := by rw [eq3, b2, b3, b4]; rfl
     rw [hq1] at c1
     rw [hq3] at c3
     refine Qh Tryz.func102 rfl Tryz.call102 Tryz.ntmps102 (congrArg Array.toList Tryz.results102) (by simp) ?_
     repeat (first | ((first | (with_reducible (first | refine Qa fun K E hK hE => ?_ | refine Qk fun K E hK hE => ?_ | refine Qp ct ?_ | refine Qz ca ?_ | refine Qz cc ?_ | refine FunW.ret (FunW.call c1) ?_ | refine FunW.ret (FunW.call c3) ?_ | refine Xt (FunW.call c2) YR ?_)) | (refine Qu (id := 4) [(0, 0), (1, 0), (2, 0), (3, 0), (4, 1), (5, 0), (6, 0), (7, 0), (8, 0), (9, 1), (10, 0), (11, 0)] mixed (by kernel_rfl) fun K hK => ?_) | (refine Qu (id := 6) [(0, 0), (1, 0), (2, 0), (3, 0), (4, 0), (5, 0), (6, 0), (7, 2)] mixed (by kernel_rfl) fun K hK => ?_)); simp -implicitDefEqProofs only [Qe, Qf, OpW, QK, aop, undef, AS.ev, Qv, AV.QoY, ↓reduceIte, Qm, QA, QB, Qt, aBin, ti9, ti29, ei29, ti41, Xl, Xc, Zq, XX, Qqz, QS, f1, f2, f3, f6, ho', hll, ga, gc, z0, z1, z2, b1, b3, b4, hsa1, hsa2, seval]) | (with_reducible (first | refine Qi ?_ | refine Qo ?_)) | ((with_reducible refine hK _ ?_); clear hK) | (refine Qg rfl ?_; simp only [↓reduceIte]))
     simp -implicitDefEqProofs only [QpO, QpS, List.mapM_nil, Option.pure_def, QpO, QD, Ql, QpW]
     exact Xv hi hj hij (.keep (.tup _ fun x hx => by cases hx)) ⟨rfl, rfl⟩
  ·cases b3 : (oc != 0)
   ·have hq1 : q1 = false := by rw [eq1, b1, b2]; rfl
    have hq3 : q3 = false := by rw [eq3, b2, b3]; rfl
    rw [hq1] at c1
    rw [hq3] at c3
    refine Qh Tryz.func102 rfl Tryz.call102 Tryz.ntmps102 (congrArg Array.toList Tryz.results102) (by simp) ?_
    repeat (first | ((first | (with_reducible (first | refine Qa fun K E hK hE => ?_ | refine Qk fun K E hK hE => ?_ | refine Qp ct ?_ | refine Qz ca ?_ | refine Qz cc ?_ | refine FunW.ret (FunW.call c1) ?_ | refine FunW.ret (FunW.call c3) ?_ | refine Xt (FunW.call c2) YR ?_)) | (refine Qu (id := 4) [(0, 0), (1, 0), (2, 0), (3, 0), (4, 1), (5, 0), (6, 0), (7, 0), (8, 0), (9, 1), (10, 0), (11, 0)] mixed (by kernel_rfl) fun K hK => ?_) | (refine Qu (id := 6) [(0, 0), (1, 0), (2, 0), (3, 0), (4, 0), (5, 0), (6, 0), (7, 2)] mixed (by kernel_rfl) fun K hK => ?_)); simp -implicitDefEqProofs only [Qe, Qf, OpW, QK, aop, undef, AS.ev, Qv, AV.QoY, ↓reduceIte, Qm, QA, QB, Qt, aBin, ti9, ti29, ei29, ti41, Xl, Xc, Zq, XX, Qqz, QS, f1, f2, f3, f6, ho', hll, ga, gc, z0, z1, z2, b1, b3, hsa1, hsa2, seval]) | (with_reducible (first | refine Qi ?_ | refine Qo ?_)) | ((with_reducible refine hK _ ?_); clear hK) | (refine Qg rfl ?_; simp only [↓reduceIte]))
    simp -implicitDefEqProofs only [QpO, QpS, List.mapM_nil, Option.pure_def, QpO, QD, Ql, QpW]
    exact Xv hi hj hij (.keep (.tup _ fun x hx => by cases hx)) ⟨rfl, rfl⟩
   ·cases b4 : (oc == 1)
    ·have hq1 : q1 = false := by rw [eq1, b1, b2]; rfl
     have hq3 : q3 = true := by rw [eq3, b2, b3, b4]; rfl
     rw [hq1] at c1
     rw [hq3] at c3
     refine Qh Tryz.func102 rfl Tryz.call102 Tryz.ntmps102 (congrArg Array.toList Tryz.results102) (by simp) ?_
     repeat (first | ((first | (with_reducible (first | refine Qa fun K E hK hE => ?_ | refine Qk fun K E hK hE => ?_ | refine Qp ct ?_ | refine Qz ca ?_ | refine Qz cc ?_ | refine FunW.ret (FunW.call c1) ?_ | refine FunW.ret (FunW.call c3) ?_ | refine Xt (FunW.call c2) YR ?_)) | (refine Qu (id := 4) [(0, 0), (1, 0), (2, 0), (3, 0), (4, 1), (5, 0), (6, 0), (7, 0), (8, 0), (9, 1), (10, 0), (11, 0)] mixed (by kernel_rfl) fun K hK => ?_) | (refine Qu (id := 6) [(0, 0), (1, 0), (2, 0), (3, 0), (4, 0), (5, 0), (6, 0), (7, 2)] mixed (by kernel_rfl) fun K hK => ?_)); simp -implicitDefEqProofs only [Qe, Qf, OpW, QK, aop, undef, AS.ev, Qv, AV.QoY, ↓reduceIte, Qm, QA, QB, Qt, aBin, ti9, ti29, ei29, ti41, Xl, Xc, Zq, XX, Qqz, QS, f1, f2, f3, f6, ho', hll, ga, gc, z0, z1, z2, b1, b2, b3, b4, hsa1, hsa2, seval]) | (with_reducible (first | refine Qi ?_ | refine Qo ?_)) | ((with_reducible refine hK _ ?_); clear hK) | (refine Qg rfl ?_; simp only [↓reduceIte]))
     simp -implicitDefEqProofs only [QpO, QpS, List.mapM_nil, Option.pure_def, QpO, QD, Ql, QpW]
     exact Xv hi hj hij (.keep (.tup _ fun x hx => by cases hx)) ⟨rfl, rfl⟩
    ·have hq1 : q1 = false := by rw [eq1, b1, b2]; rfl
     have hq3 : q3 = true := by rw [eq3, b2, b3, b4]; rfl
     rw [hq1] at c1
     rw [hq3] at c3
     refine Qh Tryz.func102 rfl Tryz.call102 Tryz.ntmps102 (congrArg Array.toList Tryz.results102) (by simp) ?_
     repeat (first | ((first | (with_reducible (first | refine Qa fun K E hK hE => ?_ | refine Qk fun K E hK hE => ?_ | refine Qp ct ?_ | refine Qz ca ?_ | refine Qz cc ?_ | refine FunW.ret (FunW.call c1) ?_ | refine FunW.ret (FunW.call c3) ?_ | refine Xt (FunW.call c2) YR ?_)) | (refine Qu (id := 4) [(0, 0), (1, 0), (2, 0), (3, 0), (4, 1), (5, 0), (6, 0), (7, 0), (8, 0), (9, 1), (10, 0), (11, 0)] mixed (by kernel_rfl) fun K hK => ?_) | (refine Qu (id := 6) [(0, 0), (1, 0), (2, 0), (3, 0), (4, 0), (5, 0), (6, 0), (7, 2)] mixed (by kernel_rfl) fun K hK => ?_)); simp -implicitDefEqProofs only [Qe, Qf, OpW, QK, aop, undef, AS.ev, Qv, AV.QoY, ↓reduceIte, Qm, QA, QB, Qt, aBin, ti9, ti29, ei29, ti41, Xl, Xc, Zq, XX, Qqz, QS, f1, f2, f3, f6, ho', hll, ga, gc, z0, z1, z2, b1, b3, b4, hsa1, hsa2, seval]) | (with_reducible (first | refine Qi ?_ | refine Qo ?_)) | ((with_reducible refine hK _ ?_); clear hK) | (refine Qg rfl ?_; simp only [↓reduceIte]))
     simp -implicitDefEqProofs only [QpO, QpS, List.mapM_nil, Option.pure_def, QpO, QD, Ql, QpW]
     exact Xv hi hj hij (.keep (.tup _ fun x hx => by cases hx)) ⟨rfl, rfl⟩
 ·cases b2 : (o == 2)
  ·cases b3 : (oc != 0)
   ·have hq1 : q1 = false := by rw [eq1, b1, b2]; rfl
    have hq3 : q3 = false := by rw [eq3, b2, b3]; rfl
    rw [hq1] at c1
    rw [hq3] at c3
    refine Qh Tryz.func102 rfl Tryz.call102 Tryz.ntmps102 (congrArg Array.toList Tryz.results102) (by simp) ?_
    repeat (first | ((first | (with_reducible (first | refine Qa fun K E hK hE => ?_ | refine Qk fun K E hK hE => ?_ | refine Qp ct ?_ | refine Qz ca ?_ | refine Qz cc ?_ | refine FunW.ret (FunW.call c1) ?_ | refine FunW.ret (FunW.call c3) ?_ | refine Xt (FunW.call c2) YR ?_)) | (refine Qu (id := 4) [(0, 0), (1, 0), (2, 0), (3, 0), (4, 1), (5, 0), (6, 0), (7, 0), (8, 0), (9, 1), (10, 0), (11, 0)] mixed (by kernel_rfl) fun K hK => ?_) | (refine Qu (id := 6) [(0, 0), (1, 0), (2, 0), (3, 0), (4, 0), (5, 0), (6, 0), (7, 2)] mixed (by kernel_rfl) fun K hK => ?_)); simp -implicitDefEqProofs only [Qe, Qf, OpW, QK, aop, undef, AS.ev, Qv, AV.QoY, ↓reduceIte, Qm, QA, QB, Qt, aBin, ti9, ti29, ei29, ti41, Xl, Xc, Zq, XX, Qqz, QS, f1, f2, f3, f6, ho', hll, ga, gc, z0, z1, z2, b1, b2, b3, hsa1, hsa2, seval]) | (with_reducible (first | refine Qi ?_ | refine Qo ?_)) | ((with_reducible refine hK _ ?_); clear hK) | (refine Qg rfl ?_; simp only [↓reduceIte]))
    simp -implicitDefEqProofs only [QpO, QpS, List.mapM_nil, Option.pure_def, QpO, QD, Ql, QpW]
    exact Xv hi hj hij (.keep (.tup _ fun x hx => by cases hx)) ⟨rfl, rfl⟩
   ·cases b4 : (oc == 1)
    ·have hq1 : q1 = false := by rw [eq1, b1, b2]; rfl
     have hq3 : q3 = false := by rw [eq3, b2, b3, b4]; rfl
     rw [hq1] at c1
     rw [hq3] at c3
     refine Qh Tryz.func102 rfl Tryz.call102 Tryz.ntmps102 (congrArg Array.toList Tryz.results102) (by simp) ?_
     repeat (first | ((first | (with_reducible (first | refine Qa fun K E hK hE => ?_ | refine Qk fun K E hK hE => ?_ | refine Qp ct ?_ | refine Qz ca ?_ | refine Qz cc ?_ | refine FunW.ret (FunW.call c1) ?_ | refine FunW.ret (FunW.call c3) ?_ | refine Xt (FunW.call c2) YR ?_)) | (refine Qu (id := 4) [(0, 0), (1, 0), (2, 0), (3, 0), (4, 1), (5, 0), (6, 0), (7, 0), (8, 0), (9, 1), (10, 0), (11, 0)] mixed (by kernel_rfl) fun K hK => ?_) | (refine Qu (id := 6) [(0, 0), (1, 0), (2, 0), (3, 0), (4, 0), (5, 0), (6, 0), (7, 2)] mixed (by kernel_rfl) fun K hK => ?_)); simp -implicitDefEqProofs only [Qe, Qf, OpW, QK, aop, undef, AS.ev, Qv, AV.QoY, ↓reduceIte, Qm, QA, QB, Qt, aBin, ti9, ti29, ei29, ti41, Xl, Xc, Zq, XX, Qqz, QS, f1, f2, f3, f6, ho', hll, ga, gc, z0, z1, z2, b1, b2, b3, b4, hsa1, hsa2, seval]) | (with_reducible (first | refine Qi ?_ | refine Qo ?_)) | ((with_reducible refine hK _ ?_); clear hK) | (refine Qg rfl ?_; simp only [↓reduceIte]))
     simp -implicitDefEqProofs only [QpO, QpS, List.mapM_nil, Option.pure_def, QpO, QD, Ql, QpW]
     exact Xv hi hj hij (.keep (.tup _ fun x hx => by cases hx)) ⟨rfl, rfl⟩
    ·have hq1 : q1 = false := by rw [eq1, b1, b2]; rfl
     have hq3 : q3 = true := by rw [eq3, b2, b3, b4]; rfl
     rw [hq1] at c1
     rw [hq3] at c3
     refine Qh Tryz.func102 rfl Tryz.call102 Tryz.ntmps102 (congrArg Array.toList Tryz.results102) (by simp) ?_
     repeat (first | ((first | (with_reducible (first | refine Qa fun K E hK hE => ?_ | refine Qk fun K E hK hE => ?_ | refine Qp ct ?_ | refine Qz ca ?_ | refine Qz cc ?_ | refine FunW.ret (FunW.call c1) ?_ | refine FunW.ret (FunW.call c3) ?_ | refine Xt (FunW.call c2) YR ?_)) | (refine Qu (id := 4) [(0, 0), (1, 0), (2, 0), (3, 0), (4, 1), (5, 0), (6, 0), (7, 0), (8, 0), (9, 1), (10, 0), (11, 0)] mixed (by kernel_rfl) fun K hK => ?_) | (refine Qu (id := 6) [(0, 0), (1, 0), (2, 0), (3, 0), (4, 0), (5, 0), (6, 0), (7, 2)] mixed (by kernel_rfl) fun K hK => ?_)); simp -implicitDefEqProofs only [Qe, Qf, OpW, QK, aop, undef, AS.ev, Qv, AV.QoY, ↓reduceIte, Qm, QA, QB, Qt, aBin, ti9, ti29, ei29, ti41, Xl, Xc, Zq, XX, Qqz, QS, f1, f2, f3, f6, ho', hll, ga, gc, z0, z1, z2, b1, b2, b3, b4, hsa1, hsa2, seval]) | (with_reducible (first | refine Qi ?_ | refine Qo ?_)) | ((with_reducible refine hK _ ?_); clear hK) | (refine Qg rfl ?_; simp only [↓reduceIte]))
     simp -implicitDefEqProofs only [QpO, QpS, List.mapM_nil, Option.pure_def, QpO, QD, Ql, QpW]
     exact Xv hi hj hij (.keep (.tup _ fun x hx => by cases hx)) ⟨rfl, rfl⟩
  ·cases b3 : (oc != 0)
   ·have hq1 : q1 = true := by rw [eq1, b1, b2]; rfl
    have hq3 : q3 = false := by rw [eq3, b2, b3]; rfl
    rw [hq1] at c1
    rw [hq3] at c3
    refine Qh Tryz.func102 rfl Tryz.call102 Tryz.ntmps102 (congrArg Array.toList Tryz.results102) (by simp) ?_
    repeat (first | ((first | (with_reducible (first | refine Qa fun K E hK hE => ?_ | refine Qk fun K E hK hE => ?_ | refine Qp ct ?_ | refine Qz ca ?_ | refine Qz cc ?_ | refine FunW.ret (FunW.call c1) ?_ | refine FunW.ret (FunW.call c3) ?_ | refine Xt (FunW.call c2) YR ?_)) | (refine Qu (id := 4) [(0, 0), (1, 0), (2, 0), (3, 0), (4, 1), (5, 0), (6, 0), (7, 0), (8, 0), (9, 1), (10, 0), (11, 0)] mixed (by kernel_rfl) fun K hK => ?_) | (refine Qu (id := 6) [(0, 0), (1, 0), (2, 0), (3, 0), (4, 0), (5, 0), (6, 0), (7, 2)] mixed (by kernel_rfl) fun K hK => ?_)); simp -implicitDefEqProofs only [Qe, Qf, OpW, QK, aop, undef, AS.ev, Qv, AV.QoY, ↓reduceIte, Qm, QA, QB, Qt, aBin, ti9, ti29, ei29, ti41, Xl, Xc, Zq, XX, Qqz, QS, f1, f2, f3, f6, ho', hll, ga, gc, z0, z1, z2, b1, b2, b3, hsa1, hsa2, seval]) | (with_reducible (first | refine Qi ?_ | refine Qo ?_)) | ((with_reducible refine hK _ ?_); clear hK) | (refine Qg rfl ?_; simp only [↓reduceIte]))
    simp -implicitDefEqProofs only [QpO, QpS, List.mapM_nil, Option.pure_def, QpO, QD, Ql, QpW]
    exact Xv hi hj hij (.keep (.tup _ fun x hx => by cases hx)) ⟨rfl, rfl⟩
   ·cases b4 : (oc == 1)
    ·have hq1 : q1 = true := by rw [eq1, b1, b2]; rfl
     have hq3 : q3 = true := by rw [eq3, b2, b3, b4]; rfl
     rw [hq1] at c1
     rw [hq3] at c3
     refine Qh Tryz.func102 rfl Tryz.call102 Tryz.ntmps102 (congrArg Array.toList Tryz.results102) (by simp) ?_
     repeat (first | ((first | (with_reducible (first | refine Qa fun K E hK hE => ?_ | refine Qk fun K E hK hE => ?_ | refine Qp ct ?_ | refine Qz ca ?_ | refine Qz cc ?_ | refine FunW.ret (FunW.call c1) ?_ | refine FunW.ret (FunW.call c3) ?_ | refine Xt (FunW.call c2) YR ?_)) | (refine Qu (id := 4) [(0, 0), (1, 0), (2, 0), (3, 0), (4, 1), (5, 0), (6, 0), (7, 0), (8, 0), (9, 1), (10, 0), (11, 0)] mixed (by kernel_rfl) fun K hK => ?_) | (refine Qu (id := 6) [(0, 0), (1, 0), (2, 0), (3, 0), (4, 0), (5, 0), (6, 0), (7, 2)] mixed (by kernel_rfl) fun K hK => ?_)); simp -implicitDefEqProofs only [Qe, Qf, OpW, QK, aop, undef, AS.ev, Qv, AV.QoY, ↓reduceIte, Qm, QA, QB, Qt, aBin, ti9, ti29, ei29, ti41, Xl, Xc, Zq, XX, Qqz, QS, f1, f2, f3, f6, ho', hll, ga, gc, z0, z1, z2, b1, b2, b3, b4, hsa1, hsa2, seval]) | (with_reducible (first | refine Qi ?_ | refine Qo ?_)) | ((with_reducible refine hK _ ?_); clear hK) | (refine Qg rfl ?_; simp only [↓reduceIte]))
     simp -implicitDefEqProofs only [QpO, QpS, List.mapM_nil, Option.pure_def, QpO, QD, Ql, QpW]
     exact Xv hi hj hij (.keep (.tup _ fun x hx => by cases hx)) ⟨rfl, rfl⟩
    ·have hq1 : q1 = true := by rw [eq1, b1, b2]; rfl
     have hq3 : q3 = true := by rw [eq3, b2, b3, b4]; rfl
     rw [hq1] at c1
     rw [hq3] at c3
     refine Qh Tryz.func102 rfl Tryz.call102 Tryz.ntmps102 (congrArg Array.toList Tryz.results102) (by simp) ?_
     repeat (first | ((first | (with_reducible (first | refine Qa fun K E hK hE => ?_ | refine Qk fun K E hK hE => ?_ | refine Qp ct ?_ | refine Qz ca ?_ | refine Qz cc ?_ | refine FunW.ret (FunW.call c1) ?_ | refine FunW.ret (FunW.call c3) ?_ | refine Xt (FunW.call c2) YR ?_)) | (refine Qu (id := 4) [(0, 0), (1, 0), (2, 0), (3, 0), (4, 1), (5, 0), (6, 0), (7, 0), (8, 0), (9, 1), (10, 0), (11, 0)] mixed (by kernel_rfl) fun K hK => ?_) | (refine Qu (id := 6) [(0, 0), (1, 0), (2, 0), (3, 0), (4, 0), (5, 0), (6, 0), (7, 2)] mixed (by kernel_rfl) fun K hK => ?_)); simp -implicitDefEqProofs only [Qe, Qf, OpW, QK, aop, undef, AS.ev, Qv, AV.QoY, ↓reduceIte, Qm, QA, QB, Qt, aBin, ti9, ti29, ei29, ti41, Xl, Xc, Zq, XX, Qqz, QS, f1, f2, f3, f6, ho', hll, ga, gc, z0, z1, z2, b1, b2, b3, b4, hsa1, hsa2, seval]) | (with_reducible (first | refine Qi ?_ | refine Qo ?_)) | ((with_reducible refine hK _ ?_); clear hK) | (refine Qg rfl ?_; simp only [↓reduceIte]))
     simp -implicitDefEqProofs only [QpO, QpS, List.mapM_nil, Option.pure_def, QpO, QD, Ql, QpW]
     exact Xv hi hj hij (.keep (.tup _ fun x hx => by cases hx)) ⟨rfl, rfl⟩
theorem Qg7 (h : AH) (_ : 3 = 3) : Keep h h := Keep.refl h
theorem QkR {h : AH} {i j : Nat} (hi : i < h.length) (hj : j < h.length) (hij : i ≠ j) (t : T) (ho : t.oper = 0) (hl : t.args.length ≤ 1000000)
  (l0 : t.kind = 0 → -9223372036854775807 ≤ t.int ∧ t.int ≤ 9223372036854775807) (l1 : t.kind = 1 → 0 ≤ t.int ∧ t.int ≤ 1048576)
  (ih : ∀ a ∈ t.args, TIh i j a) (hG : Xw (HB h i j true (.empty))) (u : Bool) (tx : ByteArray)
  (s : ByteArray) (es : s = if t.kind = 0 then decZ t.int else if t.kind = 1 then vOf (decN t.int.toNat) else funT t.name (txts t.args)) (hs : tx.size + s.size ≤ 140737488355328) :
  Wri 102 [.ptr i 0 0, t.av] h i j u tx s := by
 have eav : t.av = .agg [.i t.kind, .i t.int, .v (.string t.name), .sl 4 (avs t.args) none] := by cases t; rfl
 obtain ⟨L, hL⟩ : ∃ L : AH, L = [AB.cells 129 1 [.ptr i 0 0], AB.cells 41 4 [t.av]] := ⟨_, rfl⟩
 have hlL : (h ++ L).length = h.length + 2 := by rw [hL]; simp
 have hi' : i < (h ++ L).length := by omega
 have hj' : j < (h ++ L).length := by omega
 have gapp := fun (u : Bool) (tx : ByteArray) (L : AH) => Qiy (h := h) (i := i) (j := j) hi hj u tx L
 have hG' : Xw (HB (h ++ L) i j true (.empty)) := by rw [gapp]; exact HasG.app hG _
 have hG2 : Xw (HB (h ++ L) i j u tx) := Qom hij hG'
 have ct := Qax t (by simp only [maxLen]; omega)
 rw [ho, eav] at ct
 have f1 := Qet h i j
 have f2 := fun u tx L => Qdw h i j u tx L
 have f3 := fun u tx L => Qgo h i j u tx L
 have f6 := fun u tx L => QcO (h := h) hi hij u tx L
 by_cases k0 : t.kind = 0
 ·rw [if_pos k0] at es
  rw [k0] at eav ct
  have c1 := QiY t.int (by have := l0 k0; omega) (l0 k0).2 _ hG2
  have c2 := wstr (h := h ++ L) hi' hj' hij u tx s hs
  rw [es] at c2
  rw [gapp, hL, eav] at c1
  rw [gapp, gapp, hL, eav] at c2
  rw [eav, es]
  refine Qh Tryz.func102 rfl Tryz.call102 Tryz.ntmps102 (congrArg Array.toList Tryz.results102) (by simp) ?_
  repeat (first | ((first | (with_reducible (first | refine Qa fun K E hK hE => ?_ | refine Qk fun K E hK hE => ?_ | refine Qp ct ?_ | refine Qz ct ?_ | refine Xt (FunW.call c1) (Qg7 _) ?_ | refine Xt (FunW.call c2) YR ?_)) | (refine Qu (id := 4) [(0, 0), (1, 0), (2, 0), (3, 0), (4, 1), (5, 0), (6, 0), (7, 0), (8, 0), (9, 1), (10, 0), (11, 0)] mixed (by kernel_rfl) fun K hK => ?_) | (refine QG (id := 4) [(0, 0), (1, 0), (2, 0), (3, 0), (4, 1), (5, 0), (6, 0), (7, 0), (8, 0), (9, 1), (10, 0), (11, 0)] mixed (by kernel_rfl) fun K hK => ?_) | (refine Qu (id := 6) [(0, 0), (1, 0), (2, 0), (3, 0), (4, 0), (5, 0), (6, 0), (7, 2)] mixed (by kernel_rfl) fun K hK => ?_) | (refine QG (id := 6) [(0, 0), (1, 0), (2, 0), (3, 0), (4, 0), (5, 0), (6, 0), (7, 2)] mixed (by kernel_rfl) fun K hK => ?_) | (refine Qu (id := 9) [(0, 0), (1, 0), (2, 0), (3, 0), (4, 0), (5, 3), (6, 2)] mixed (by kernel_rfl) fun K hK => ?_) | (refine QG (id := 9) [(0, 0), (1, 0), (2, 0), (3, 0), (4, 0), (5, 3), (6, 2)] mixed (by kernel_rfl) fun K hK => ?_) | (refine Qu (id := 11) [(0, 0), (1, 0), (2, 0), (3, 0), (4, 0), (5, 3), (6, 2)] mixed (by kernel_rfl) fun K hK => ?_) | (refine QG (id := 11) [(0, 0), (1, 0), (2, 0), (3, 0), (4, 0), (5, 3), (6, 2)] mixed (by kernel_rfl) fun K hK => ?_)); simp -implicitDefEqProofs only [Qe, Qf, OpW, QK, aop, undef, AS.ev, Qv, AV.QoY, ↓reduceIte, Qm, QA, QB, aBin, ti3, ti41, QX, Q9, Zq, XX, QS, f1, f2, f3, f6, seval]) | (with_reducible (first | refine Qd fun K hK => ?_ | refine Qi ?_ | refine Qj ?_ | refine Q0 ?_ | refine Q1 ?_ | refine Qn ?_ | refine QC ?_ | refine Qb ?_ | refine Qq ?_ | refine Qw ?_ | refine Qo ?_ | refine Qs ?_ | refine Qy ?_ | refine QU rfl ?_)) | (with_reducible (first | refine hK _ ?_ | (clear hK; refine hK _ ?_) | (clear hK; clear hK; refine hK _ ?_) | (clear hK; clear hK; clear hK; refine hK _ ?_)); clear hK) | (refine Qg rfl ?_; simp only [↓reduceIte, QpQ]) | (intro (b : Bool); cases b))
  simp -implicitDefEqProofs only [QpO, QpS, List.mapM_nil, Option.pure_def, QpO, QD, Ql, QpW]
  exact Xv hi hj hij (.keep (.tup _ fun x hx => by cases hx)) ⟨rfl, rfl⟩
 ·rw [if_neg k0] at es
  have m0 : (t.kind == 0) = false := by simpa using k0
  by_cases k1 : t.kind = 1
  ·rw [if_pos k1] at es
   rw [k1] at eav ct
   have z1 : ((1 : Int) == 0) = false := by decide
   have en : t.int = (t.int.toNat : Int) := by have := l1 k1; omega
   have c1 := Qgi t.int.toNat (by have := l1 k1; omega) _ hG2
   rw [← en] at c1
   have c2 := wstr (h := h ++ L) hi' hj' hij u tx s hs
   rw [es] at c2
   rw [gapp, hL, eav] at c1
   rw [gapp, gapp, hL, eav] at c2
   rw [eav, es]
   refine Qh Tryz.func102 rfl Tryz.call102 Tryz.ntmps102 (congrArg Array.toList Tryz.results102) (by simp) ?_
   repeat (first | ((first | (with_reducible (first | refine Qa fun K E hK hE => ?_ | refine Qk fun K E hK hE => ?_ | refine Qp ct ?_ | refine Qz ct ?_ | refine Xt (FunW.call c1) (Qg7 _) ?_ | refine Xt (FunW.call c2) YR ?_)) | (refine Qu (id := 4) [(0, 0), (1, 0), (2, 0), (3, 0), (4, 1), (5, 0), (6, 0), (7, 0), (8, 0), (9, 1), (10, 0), (11, 0)] mixed (by kernel_rfl) fun K hK => ?_) | (refine QG (id := 4) [(0, 0), (1, 0), (2, 0), (3, 0), (4, 1), (5, 0), (6, 0), (7, 0), (8, 0), (9, 1), (10, 0), (11, 0)] mixed (by kernel_rfl) fun K hK => ?_) | (refine Qu (id := 6) [(0, 0), (1, 0), (2, 0), (3, 0), (4, 0), (5, 0), (6, 0), (7, 2)] mixed (by kernel_rfl) fun K hK => ?_) | (refine QG (id := 6) [(0, 0), (1, 0), (2, 0), (3, 0), (4, 0), (5, 0), (6, 0), (7, 2)] mixed (by kernel_rfl) fun K hK => ?_) | (refine Qu (id := 9) [(0, 0), (1, 0), (2, 0), (3, 0), (4, 0), (5, 3), (6, 2)] mixed (by kernel_rfl) fun K hK => ?_) | (refine QG (id := 9) [(0, 0), (1, 0), (2, 0), (3, 0), (4, 0), (5, 3), (6, 2)] mixed (by kernel_rfl) fun K hK => ?_) | (refine Qu (id := 11) [(0, 0), (1, 0), (2, 0), (3, 0), (4, 0), (5, 3), (6, 2)] mixed (by kernel_rfl) fun K hK => ?_) | (refine QG (id := 11) [(0, 0), (1, 0), (2, 0), (3, 0), (4, 0), (5, 3), (6, 2)] mixed (by kernel_rfl) fun K hK => ?_)); simp -implicitDefEqProofs only [Qe, Qf, OpW, QK, aop, undef, AS.ev, Qv, AV.QoY, ↓reduceIte, Qm, QA, QB, aBin, ti3, ti41, QX, Q9, Zq, XX, QS, f1, f2, f3, f6, z1, seval]) | (with_reducible (first | refine Qd fun K hK => ?_ | refine Qi ?_ | refine Qj ?_ | refine Q0 ?_ | refine Q1 ?_ | refine Qn ?_ | refine QC ?_ | refine Qb ?_ | refine Qq ?_ | refine Qw ?_ | refine Qo ?_ | refine Qs ?_ | refine Qy ?_ | refine QU rfl ?_)) | (with_reducible (first | refine hK _ ?_ | (clear hK; refine hK _ ?_) | (clear hK; clear hK; refine hK _ ?_) | (clear hK; clear hK; clear hK; refine hK _ ?_)); clear hK) | (refine Qg rfl ?_; simp only [↓reduceIte, QpQ]) | (intro (b : Bool); cases b))
   simp -implicitDefEqProofs only [QpO, QpS, List.mapM_nil, Option.pure_def, QpO, QD, Ql, QpW]
   exact Xv hi hj hij (.keep (.tup _ fun x hx => by cases hx)) ⟨rfl, rfl⟩
  ·rw [if_neg k1] at es
   have m1 : (t.kind == 1) = false := by simpa using k1
   have c1 := Qc3 (h := h ++ L) hi' hj' hij t.args hl t.name (fun a ha h hi hj hG tx hs => ih a ha h hi hj hG true tx hs) hG' u tx (by rw [← es]; exact hs)
   rw [Wri, ← es, gapp, gapp, hL, eav] at c1
   rw [eav]
   refine Qh Tryz.func102 rfl Tryz.call102 Tryz.ntmps102 (congrArg Array.toList Tryz.results102) (by simp) ?_
   repeat (first | ((first | (with_reducible (first | refine Qa fun K E hK hE => ?_ | refine Qk fun K E hK hE => ?_ | refine Qp ct ?_ | refine Qz ct ?_ | refine FunW.ret (FunW.call c1) ?_)) | (refine Qu (id := 4) [(0, 0), (1, 0), (2, 0), (3, 0), (4, 1), (5, 0), (6, 0), (7, 0), (8, 0), (9, 1), (10, 0), (11, 0)] mixed (by kernel_rfl) fun K hK => ?_) | (refine QG (id := 4) [(0, 0), (1, 0), (2, 0), (3, 0), (4, 1), (5, 0), (6, 0), (7, 0), (8, 0), (9, 1), (10, 0), (11, 0)] mixed (by kernel_rfl) fun K hK => ?_) | (refine Qu (id := 6) [(0, 0), (1, 0), (2, 0), (3, 0), (4, 0), (5, 0), (6, 0), (7, 2)] mixed (by kernel_rfl) fun K hK => ?_) | (refine QG (id := 6) [(0, 0), (1, 0), (2, 0), (3, 0), (4, 0), (5, 0), (6, 0), (7, 2)] mixed (by kernel_rfl) fun K hK => ?_) | (refine Qu (id := 9) [(0, 0), (1, 0), (2, 0), (3, 0), (4, 0), (5, 3), (6, 2)] mixed (by kernel_rfl) fun K hK => ?_) | (refine QG (id := 9) [(0, 0), (1, 0), (2, 0), (3, 0), (4, 0), (5, 3), (6, 2)] mixed (by kernel_rfl) fun K hK => ?_) | (refine Qu (id := 11) [(0, 0), (1, 0), (2, 0), (3, 0), (4, 0), (5, 3), (6, 2)] mixed (by kernel_rfl) fun K hK => ?_) | (refine QG (id := 11) [(0, 0), (1, 0), (2, 0), (3, 0), (4, 0), (5, 3), (6, 2)] mixed (by kernel_rfl) fun K hK => ?_)); simp -implicitDefEqProofs only [Qe, Qf, OpW, QK, aop, undef, AS.ev, Qv, AV.QoY, ↓reduceIte, Qm, QA, QB, aBin, ti3, ti9, ti29, ti41, QX, Xl, Xc, Zq, f1, f2, f3, m0, m1, seval]) | (with_reducible (first | refine Qd fun K hK => ?_ | refine Qi ?_ | refine Qj ?_ | refine Q0 ?_ | refine Q1 ?_ | refine Qn ?_ | refine QC ?_ | refine Qb ?_ | refine Qq ?_ | refine Qw ?_ | refine Qo ?_ | refine Qs ?_ | refine Qy ?_ | refine QU rfl ?_)) | (with_reducible (first | refine hK _ ?_ | (clear hK; refine hK _ ?_) | (clear hK; clear hK; refine hK _ ?_) | (clear hK; clear hK; clear hK; refine hK _ ?_)); clear hK) | (refine Qg rfl ?_; simp only [↓reduceIte, QpQ]) | (intro (b : Bool); cases b))
   simp -implicitDefEqProofs only [QpO, QpS, List.mapM_nil, Option.pure_def, QpO, QD, Ql, QpW]
   exact Xv hi hj hij (.keep (.tup _ fun x hx => by cases hx)) ⟨rfl, rfl⟩
mutual
theorem T.Qpl : ∀ (t : T), t.lex → ∀ (i j : Nat), i ≠ j → TIh i j t
 | .mk k x n l, hx, i, j, hij => fun h hi hj hG u tx hs => by
  obtain ⟨l0, l1, hl, hn, hll⟩ := hx
  have ih := Qfp l hll i j hij
  by_cases ho : (T.mk k x n l).oper = 0
  ·have es : (T.mk k x n l).txt = if k = 0 then decZ x else if k = 1 then vOf (decN x.toNat) else funT n (txts l) := by rw [T.txt, if_neg (by simpa using ho)]
   exact QkR hi hj hij (T.mk k x n l) ho hl l0 l1 ih hG u tx _ es hs
  ·have hk : k = 2 ∧ l.length = 2 ∧ ofB n ≠ 0 := by
    simp only [T.oper] at ho
    split at ho
    ·exact absurd rfl ho
    ·rename_i hq
     exact ⟨Decidable.byContradiction fun e => hq (.inl e), Decidable.byContradiction fun e => hq (.inr e), ho⟩
   obtain ⟨rfl, h2, hon⟩ := hk
   match l, h2, hll, ih with
   | [a, c], _, hll, ih =>
    have et : (T.mk 2 x n [a, c]).txt = binT (ofB n) n a.oper c.oper a.txt c.txt := by rw [T.txt, if_pos ho]; rfl
    rw [et] at hs ⊢
    have la : a.args.length ≤ 1000000 := by cases a; exact hll.1.2.2.1
    have lc : c.args.length ≤ 1000000 := by cases c; exact hll.2.1.2.2.1
    exact QmM hi hj hij n x a c hn hon la lc (ih a (by simp)) (ih c (by simp)) hG u tx hs
theorem Qfp : ∀ (l : List T), lexL l → ∀ (i j : Nat), i ≠ j → ∀ a ∈ l, TIh i j a
 | [], _, _, _, _, a, ha => by cases ha
 | t :: l, hx, i, j, hij, a, ha => by
  have h1 := T.Qpl t hx.1 i j hij
  have h2 := Qfp l hx.2 i j hij
  rcases List.mem_cons.1 ha with e | e
  ·rw [e]; exact h1
  ·exact h2 a e
end
theorem Qos {c : Cx} (hst : St c) (id ty e : Nat) (p : Value) (hb : c.h[id]? = some (.cells ty 2 [.agg [.v p, .v (.slice none 0 0)]])) :
  ∃ c2, Ev c c2 ∧ St c2 ∧ c2.h = (c.h ++ [AB.grow e 1 0]).set id (AB.cells ty 2 [.agg [.v p, .sl 1 [] (some c.h.length)]]) ∧ c2.w = c.w := by
 obtain ⟨hev, hst1⟩ := QdC hst e 1
 have hlt := QF hb
 have hb1 : (c.add c.w (.grow e 1 0) none).h[id]? = some (.cells ty 2 [.agg [.v p, .v (.slice none 0 0)]]) := by
  simp only [Cx.add]; rw [List.getElem?_append_left hlt]; exact hb
 obtain ⟨B, cur, hρ, hcur, h3, h4⟩ := hst1.blocks id _ hb1
 have hev2 := Ev.turn (b' := .cells ty 2 [.agg [.v p, .sl 1 [] (some c.h.length)]]) hst1 hb1 rfl hρ (w := c.w) rfl rfl rfl rfl (fun _ _ => rfl) (.inr ⟨_, rfl, rfl, fun _ cur _ h => ⟨cur, h, rfl⟩⟩)
 have htok : ((c.add c.w (.grow e 1 0) none).turn c.w id (.cells ty 2 [.agg [.v p, .sl 1 [] (some c.h.length)]])).tokNil c.h.length 1 := by
  refine ⟨by simp [Cx.turn, Cx.add], fun e2 s2 n2 hg2 => ?_⟩
  simp only [Cx.turn, Cx.add] at hg2
  rw [List.getElem?_set_ne (by omega), List.getElem?_append_right (Nat.le_refl _), Nat.sub_self] at hg2
  simp at hg2
  exact ⟨hg2.2.1.symm, fun _ => by simp [Cx.turn, Cx.add]⟩
 have hfl : flat [AV.agg [.v p, .v (.slice none 0 0)]] = [.v p, .v (.slice none 0 0)] := rfl
 have hst2 := St.turn (b' := .cells ty 2 [.agg [.v p, .sl 1 [] (some c.h.length)]]) hst1 hb1 rfl hρ (w := c.w) (fun _ _ => rfl) hev2 ⟨B, cur, hρ, hcur, (by simp [AV.cells]), by
  intro j a' hj
  have hj' : [AV.v p, .sl 1 [] (some c.h.length)][j]? = some a' := hj
  match j with
  | 0 =>
   simp only [QpM, QpS] at hj'
   subst hj'
   obtain ⟨u, g1, g2, g3⟩ := h4 0 (.v p) (by rw [hfl]; rfl)
   exact ⟨u, g1, g2, g3.ev hst1 hev2⟩
  | 1 =>
   simp only [QpN, QpM, QpS] at hj'
   subst hj'
   obtain ⟨u, g1, g2, g3⟩ := h4 1 (.v (.slice none 0 0)) (by rw [hfl]; rfl)
   cases g3
   exact ⟨_, g1, g2, .slnil _ _ fun b hb => by cases hb; exact htok⟩
  | j + 2 => simp at hj'⟩
 exact ⟨_, Ev.trans hst hev hev2, hst2, rfl, rfl⟩
theorem Qhw {P : Program} {fv : AV} {args : List AV} {h : AH} {Q : AOut → AH → Prop} (id ty e : Nat) (p : Value) (hb : h[id]? = some (.cells ty 2 [.agg [.v p, .v (.slice none 0 0)]]))
  (H : FunW P fv args ((h ++ [AB.grow e 1 0]).set id (AB.cells ty 2 [.agg [.v p, .sl 1 [] (some h.length)]])) Q) : FunW P fv args h Q := by
 intro F n c v vals hF hs hh hv hvs o a next Qx h1 h2
 subst hh
 obtain ⟨c2, hev, hst2, hh2, hw⟩ := Qos hs id ty e p hb
 rw [← hw]
 exact H F n c2 v vals hF hst2 hh2 (hv.ev hs hev) (hvs.ev hs hev) o a next Qx (fun r c' x hQ he => h1 r c' x hQ (Ev.trans hs hev he)) (fun r c' x hQ he => h2 r c' x hQ (Ev.trans hs hev he))
theorem Qkg (fv : AV) : Pure Tryz.prog 100 [.b false, fv] (.v (.string { data := #[] })) := by
 intro h
 refine Qh Tryz.func100 rfl Tryz.call100 Tryz.ntmps100 (congrArg Array.toList Tryz.results100) (by simp) ?_
 repeat (first | ((first | (with_reducible (first | refine Qa fun K E hK hE => ?_ | refine Qk fun K E hK hE => ?_))); simp -implicitDefEqProofs only [Qe, Qf, OpW, aop, undef, AS.ev, Qv, ↓reduceIte, seval]) | (with_reducible (first | refine Qd fun K hK => ?_ | refine Qi ?_ | refine Qj ?_ | refine Q0 ?_ | refine Q1 ?_ | refine Qn ?_ | refine QC ?_ | refine Qb ?_ | refine Qq ?_ | refine Qw ?_ | refine Qo ?_ | refine Qs ?_ | refine Qy ?_ | refine QU rfl ?_)) | (with_reducible (first | refine hK _ ?_ | (clear hK; refine hK _ ?_) | (clear hK; clear hK; refine hK _ ?_) | (clear hK; clear hK; clear hK; refine hK _ ?_)); clear hK) | (refine Qg rfl ?_; simp only [↓reduceIte]) | (intro (b : Bool); cases b))
 simp only [QD, Ql, Qr, upd, ↓reduceIte, QpS, QpW]; first | refine Qc (htake _ _) (.keep (.v _)) ⟨rfl, rfl⟩ | refine Qc List.take_length (.keep (.v _)) ⟨rfl, rfl⟩
theorem Qij (fv r : AV) (s : ByteArray) (h : AH) (h0 : 0 < s.size) (hs : s.size ≤ 140737488355328)
  (hw : FunW Tryz.prog fv [.ptr h.length 0 0] (HB (h ++ [AB.dead, AB.dead]) h.length (h.length + 1) false .empty) fun o h' => o = .ret r ∧ h' = HB (h ++ [AB.dead, AB.dead]) h.length (h.length + 1) true s) :
  Xf Tryz.prog 100 [.b true, fv] h fun o h' => o = .ret (.v (.string s)) ∧ h' = h := by
 have hi : h.length < (h ++ [AB.dead, AB.dead]).length := by simp
 have hj : h.length + 1 < (h ++ [AB.dead, AB.dead]).length := by simp
 have e0 : HB (h ++ [AB.dead, AB.dead]) h.length (h.length + 1) false .empty = h ++ [AB.cells 162 2 [.agg [.v (.pointer none), .sl 1 [] (some (h.length + 1))]], AB.grow 5 1 0] := by
  simp [HB, hs2, bw]; rfl
 have e1 : HB (h ++ [AB.dead, AB.dead]) h.length (h.length + 1) true s = h ++ [bw 162 h.length (h.length + 1) true s, AB.grow 5 1 s.size] := by
  simp [HB, hs2]
 have c1 := Qjy (ty := 162) (i := h.length) (j := h.length + 1) (by omega) s h0 hs (h ++ [AB.dead, AB.dead]) hi hj
 have e2 : hs2 (h ++ [AB.dead, AB.dead]) h.length (bw 162 h.length (h.length + 1) true s) (h.length + 1) .gone = h ++ [bw 162 h.length (h.length + 1) true s, AB.gone] := by
  simp [hs2]
 rw [e2, ← HB, e1] at c1
 rw [e1, e0] at hw
 refine Qh Tryz.func100 rfl Tryz.call100 Tryz.ntmps100 (congrArg Array.toList Tryz.results100) (by simp) ?_
 repeat (first | ((first | (with_reducible (first | refine Qa fun K E hK hE => ?_ | refine Qk fun K E hK hE => ?_))); simp -implicitDefEqProofs only [Qe, Qf, OpW, aop, undef, AS.ev, Qv, AV.QoY, ↓reduceIte, QoU, seval]) | (with_reducible (first | refine Qd fun K hK => ?_ | refine Qi ?_ | refine Qj ?_ | refine Q0 ?_ | refine Q1 ?_ | refine Qn ?_ | refine QC ?_ | refine Qb ?_ | refine Qq ?_ | refine Qw ?_ | refine Qo ?_ | refine Qs ?_ | refine Qy ?_ | refine QU rfl ?_)) | (with_reducible (first | refine hK _ ?_ | (clear hK; refine hK _ ?_) | (clear hK; clear hK; refine hK _ ?_) | (clear hK; clear hK; clear hK; refine hK _ ?_)); clear hK) | (refine Qg rfl ?_; simp only [↓reduceIte, QpQ]) | (intro (b : Bool); cases b))
 refine Qhw h.length 162 5 (.pointer none) (by simp) ?_
 refine FunW.ret (h' := h ++ [bw 162 h.length (h.length + 1) true s, AB.grow 5 1 s.size]) (r := r) (by simpa using hw) ?_
 rw [bw1] at c1 ⊢
 simp -implicitDefEqProofs only [Q4, QK, Q6, Nat.reduceLT]
 repeat (first | ((first | (with_reducible (first | refine Qa fun K E hK hE => ?_ | refine Qk fun K E hK hE => ?_ | refine FunW.ret (FunW.call c1) ?_))); simp -implicitDefEqProofs only [Qe, Qf, OpW, QK, aop, AS.ev, ↓reduceIte, Qm, XX, seval]) | (with_reducible (first | refine Qd fun K hK => ?_ | refine Qi ?_ | refine Qj ?_ | refine Q0 ?_ | refine Q1 ?_ | refine Qn ?_ | refine QC ?_ | refine Qb ?_ | refine Qq ?_ | refine Qw ?_ | refine Qo ?_ | refine Qs ?_ | refine Qy ?_ | refine QU rfl ?_)) | (with_reducible (first | refine hK _ ?_ | (clear hK; refine hK _ ?_) | (clear hK; clear hK; refine hK _ ?_) | (clear hK; clear hK; clear hK; refine hK _ ?_)); clear hK) | (refine Qg rfl ?_; simp only [↓reduceIte, QpQ]) | (intro (b : Bool); cases b))
 simp only [QD, Ql, Qr, upd, ↓reduceIte, QpS, QpW]; first | refine Qc (htake _ _) (.keep (.v _)) ⟨rfl, rfl⟩ | refine Qc List.take_length (.keep (.v _)) ⟨rfl, rfl⟩
theorem Qc5 {s : ByteArray} (h : Yv s = true) : 1 ≤ s.size ∧ s.size ≤ 40 := by
 rw [Yv, Bool.and_eq_true, decide_eq_true_eq] at h
 exact ⟨h.1.1, h.1.2.1⟩
theorem Qe4 (b : Bool) (x : ByteArray) : (encB b x).size ≤ x.size + 2 := by
 rw [encB]; split
 ·rw [QJ, QJ]; have : lpa.size = 1 := rfl; have : rpa.size = 1 := rfl; omega
 ·omega
theorem Qih (l : List ByteArray) : ∀ f, (Zx f l).size ≤ (l.map fun x => x.size + 2).sum := by
 induction l with
 | nil => intro f; rw [Zx]; simp
 | cons x l ih =>
  intro f
  have h1 := ih false
  rw [Qjk f _ x l rfl, List.map_cons, List.sum_cons]
  split <;> omega
theorem Ql1 (t : ByteArray) : (vOf t).size = t.size + 1 := by rw [vOf, QJ]; have : ({ data := #[86] } : ByteArray).size = 1 := rfl; omega
theorem ZJ {s : ByteArray} (h : Y8 s = true) : s.size = 0 := by
 rw [Y8, QbX, decide_eq_true_eq] at h
 exact h
mutual
theorem T.Qpj : ∀ (t : T) (b d : Int), (t.run b d).1 = true → t.lex ∧ (t.txt.size : Int) + 4 ≤ 60 * (b - (t.run b d).2) ∧ 0 < t.txt.size ∧ (t.run b d).2 ≤ b
 | .mk k i n l, b, d, h => by
  rw [T.run] at h ⊢
  split at h
  ·cases h
  rename_i h1
  rw [if_neg h1]
  split at h
  ·rename_i k0
   subst k0
   rw [if_pos rfl]
   simp only [Bool.and_eq_true, decide_eq_true_eq] at h
   obtain ⟨⟨hr, hn⟩, hl⟩ := h
   have hl' : l = [] := by simpa using hl
   subst hl'
   have hn' := ZJ hn
   have hz := Qku i (by omega) (by omega)
   have hp := QmN i
   have et : (T.mk 0 i n []).txt = decZ i := by rw [T.txt, if_neg (by simp [T.oper, T.kind]), if_pos rfl]
   rw [et]
   refine ⟨⟨fun _ => by omega, fun e => (by cases e), by simp, by omega, trivial⟩, ?_, hp, ?_⟩ <;> simp only <;> omega
  ·rename_i k0
   rw [if_neg k0]
   split at h
   ·rename_i k1
    subst k1
    rw [if_pos rfl]
    simp only [Bool.and_eq_true, decide_eq_true_eq] at h
    obtain ⟨⟨hr, hn⟩, hl⟩ := h
    have hl' : l = [] := by simpa using hl
    subst hl'
    have hn' := ZJ hn
    have hz := Qfq (n := i.toNat) (by omega)
    have et : (T.mk 1 i n []).txt = vOf (decN i.toNat) := by rw [T.txt, if_neg (by simp [T.oper, T.kind]), if_neg k0, if_pos rfl]
    rw [et, Ql1]
    refine ⟨⟨fun e => (by cases e), fun _ => hr, by simp, by omega, trivial⟩, ?_, by omega, ?_⟩ <;> simp only <;> omega
   ·rename_i k1
    rw [if_neg k1]
    split at h
    ·rename_i k2
     subst k2
     rw [if_pos rfl]
     split at h
     ·cases h
     rename_i h3
     rw [if_neg h3]
     split at h
     ·cases h
     rename_i h4
     rw [if_neg h4]
     have hL := Qff l (b - 1) (d - 1) h
     have hll : l.length ≤ 6 := by omega
     have hns : 1 ≤ n.size ∧ n.size ≤ 40 := by
      simp only [Bool.not_eq_true', Bool.and_eq_true, not_and, Bool.not_eq_false, decide_eq_true_eq] at h4
      cases hrb : Yv n with
      | true => exact Qc5 hrb
      | false =>
       rw [hrb] at h4
       have hop : opB n = true := by
        cases ho : opB n with
        | true => rfl
        | false => rw [ho] at h4; simp at h4
       by_cases hs1 : n.size = 1
       ·omega
       ·rw [Qfd hs1] at hop; cases hop
     refine ⟨⟨fun e => (by cases e), fun e => (by cases e), by omega, by omega, hL.1⟩, ?_⟩
     by_cases ho : (T.mk 2 i n l).oper = 0
     ·have et : (T.mk 2 i n l).txt = funT n (txts l) := by rw [T.txt, if_neg (by simpa using ho), if_neg k0, if_neg k1]
      rw [et, funT, QJ]
      have e1 := Qe4 (decide (0 < (txts l).length)) (Zx true (txts l))
      have e2 := Qih (txts l) true
      have e3 := hL.2.1
      refine ⟨?_, ?_, ?_⟩ <;> omega
     ·have hk : l.length = 2 := by
       simp only [T.oper] at ho
       split at ho
       ·exact absurd rfl ho
       ·rename_i hq; exact Decidable.byContradiction fun e => hq (.inr e)
      match l, hk, hL with
      | [a, c], _, hL =>
       have et : (T.mk 2 i n [a, c]).txt = binT (ofB n) n a.oper c.oper a.txt c.txt := by rw [T.txt, if_pos ho]; rfl
       rw [et, binT]
       simp only [QJ]
       have hsp : ({ data := #[32] } : ByteArray).size = 1 := rfl
       have e1 := Qe4 ((a.oper == 1) && (ofB n == 2)) a.txt
       have e2 := Qe4 ((c.oper != 0) && ((c.oper == 1) || (ofB n == 2))) c.txt
       have e3 := hL.2.1
       have e4 := hL.2.2
       simp only [txts, Qp1, Qp5, List.sum_cons, List.sum_nil] at e3
       refine ⟨?_, ?_, ?_⟩ <;> omega
    ·cases h
theorem Qff : ∀ (l : List T) (b d : Int), (runL l b d).1 = true → lexL l ∧ ((((txts l).map fun x => x.size + 2).sum : Nat) : Int) ≤ 60 * (b - (runL l b d).2) ∧ (runL l b d).2 ≤ b
 | [], b, d, h => by rw [runL]; exact ⟨trivial, by simp [txts], Int.le_refl _⟩
 | t :: l, b, d, h => by
  rw [runL] at h ⊢
  split at h
  ·rename_i h1
   rw [if_pos h1]
   have ht := T.Qpj t b d h1
   have hl := Qff l _ d h
   refine ⟨⟨ht.1, hl.1⟩, ?_, ?_⟩
   ·rw [txts, List.map_cons, List.sum_cons]
    have := hl.2.1
    have := ht.2.1
    omega
   ·have := hl.2.2; have := ht.2.2.2; omega
  ·cases h
end
end Go.Proofs.YtniljpjjnmkoaaaGreatDoor.Ab
set_option maxRecDepth 4000
namespace Go.Proofs.YtniljpjjnmkoaaaGreatDoor.Ab
open Go.Proofs
theorem QnO {h : AH} (hG : Xw h) (u : Bool) (tx : ByteArray) : Xw (HB (h ++ [AB.dead, AB.dead]) h.length (h.length + 1) u tx) := by
 obtain ⟨k, ty, fr, e⟩ := hG
 refine ⟨k, ty, fr, ?_⟩
 have hk := QF e
 rw [HB, Y1 _ _ (by omega) (by omega), List.getElem?_append_left hk, e]
section
variable {h : AH} {i j p : Nat} (hi : i < h.length) (hj : j < h.length) (hij : i ≠ j) (hpi : i ≠ p) (hpj : j ≠ p)
theorem Qk1 (hi : i < h.length) (hj : j < h.length) (hij : i ≠ j) (hpi : i ≠ p) (hpj : j ≠ p) (g : G) (gp : h[p]? = some (.cells 45 2 [g.atom])) (hx : lexL g.args) (hl : g.args.length ≤ 1000000)
  (hG : Xw (HB h i j true (.empty))) (u : Bool) (tx : ByteArray) (hs : tx.size + (funT g.name (txts g.args)).size ≤ 140737488355328) :
  Wri 103 [.ptr i 0 0, .ptr p 0 0] h i j u tx (funT g.name (txts g.args)) := by
 have k1 : ∀ u tx, (HB h i j u tx)[p]? = some (.cells 45 2 [.agg [.v (.string g.name), .sl 4 (avs g.args) none]]) := fun u tx => by
  rw [HB, Y1 _ _ hpi hpj, gp]; rfl
 have c1 := Qc3 hi hj hij g.args hl g.name (fun a ha h hi hj hG tx hs => Qfp g.args hx i j hij a ha h hi hj hG true tx hs) hG u tx hs
 rw [Wri] at c1
 refine Qh Tryz.func103 rfl Tryz.call103 Tryz.ntmps103 (congrArg Array.toList Tryz.results103) (by simp) ?_
 repeat (first | ((first | (with_reducible (first | refine Qa fun K E hK hE => ?_ | refine Qk fun K E hK hE => ?_ | refine FunW.ret (FunW.call c1) ?_))); simp -implicitDefEqProofs only [Qe, Qf, OpW, QK, aop, undef, AS.ev, Qv, ↓reduceIte, Qm, QA, QB, ti9, ti29, YQ, YK, k1, seval]) | (with_reducible (first | refine Qd fun K hK => ?_ | refine Qi ?_ | refine Qj ?_ | refine Q0 ?_ | refine Q1 ?_ | refine Qn ?_ | refine QC ?_ | refine Qb ?_ | refine Qq ?_ | refine Qw ?_ | refine Qo ?_ | refine Qs ?_ | refine Qy ?_ | refine QU rfl ?_)) | (with_reducible (first | refine hK _ ?_ | (clear hK; refine hK _ ?_) | (clear hK; clear hK; refine hK _ ?_) | (clear hK; clear hK; clear hK; refine hK _ ?_)); clear hK) | (refine Qg rfl ?_; simp only [↓reduceIte, QpQ]) | (intro (b : Bool); cases b))
 simp -implicitDefEqProofs only [QpO, QpS, List.mapM_nil, Option.pure_def, QpO, QD, Ql, QpW]
 exact .inr ⟨rfl, rfl⟩
end
end Go.Proofs.YtniljpjjnmkoaaaGreatDoor.Ab
set_option maxRecDepth 4000
namespace Go.Proofs.YtniljpjjnmkoaaaGreatDoor.Ab
open Go.Proofs
def txtA (g : G) : ByteArray := if rightAtomB g = true then funT g.name (txts g.args) else { data := #[] }
theorem QkV {s : ByteArray} {l : List ByteArray} (h0 : 1 ≤ s.size) : 1 ≤ (funT s l).size := by rw [funT, QJ]; omega
theorem Qnt (s : ByteArray) (l : List ByteArray) : (funT s l).size ≤ s.size + 2 + (l.map fun x => x.size + 2).sum := by
 rw [funT, QJ]
 have e1 := Qe4 (decide (0 < l.length)) (Zx true l)
 have e2 := Qih l true
 omega
theorem QiE {g : G} (h : rightAtomB g = true) : lexL g.args ∧ g.args.length ≤ 6 ∧ 1 ≤ (funT g.name (txts g.args)).size ∧ (funT g.name (txts g.args)).size ≤ 15000 := by
 simp only [rightAtomB, Bool.and_eq_true, decide_eq_true_eq] at h
 obtain ⟨h1, h2, h3⟩ := h
 have hn := Qc5 h1
 have hl := Qff g.args 200 20 h3
 have hr := Qe6 g.args 200 20 (by omega) h3
 refine ⟨hl.1, h2, QkV hn.1, ?_⟩
 have := Qnt g.name (txts g.args)
 have := hl.2.1
 omega
theorem Qig {h : AH} (hG : Xw h) (b : AB) : Xw (HB (h ++ [b] ++ [AB.dead, AB.dead]) (h ++ [b]).length ((h ++ [b]).length + 1) true (.empty)) := QnO (hG.app [b]) _ _
theorem Qfv (g : G) (hl : g.args.length ≤ 1000000) (h : AH) (hG : Xw h) : Xf Tryz.prog 59 [g.atom] h fun o h' => o = .ret (.v (.string (txtA g))) ∧ h' = h := by
 have cr := YG g
 cases hr : rightAtomB g with
 | false =>
  rw [hr] at cr
  have c1 := Qkg (.fn (.func 103) [] [.ptr h.length 0 0])
  refine Qh Tryz.func59 rfl Tryz.call59 Tryz.ntmps59 (congrArg Array.toList Tryz.results59) (by simp) ?_
  repeat (first | ((first | (with_reducible (first | refine Qa fun K E hK hE => ?_ | refine Qk fun K E hK hE => ?_ | refine Qp cr ?_ | refine Qz cr ?_ | refine Qp c1 ?_ | refine Qz c1 ?_))); simp -implicitDefEqProofs only [Qe, Qf, OpW, QK, aop, undef, AS.ev, Qv, AV.QoY, ↓reduceIte, QA, QB, ti45, QT, Xa, seval]) | (with_reducible (first | refine Qd fun K hK => ?_ | refine Qi ?_ | refine Qj ?_ | refine Q0 ?_ | refine Q1 ?_ | refine Qn ?_ | refine QC ?_ | refine Qb ?_ | refine Qq ?_ | refine Qw ?_ | refine Qo ?_ | refine Qs ?_ | refine Qy ?_ | refine QU rfl ?_)) | (with_reducible (first | refine hK _ ?_ | (clear hK; refine hK _ ?_) | (clear hK; clear hK; refine hK _ ?_) | (clear hK; clear hK; clear hK; refine hK _ ?_)); clear hK) | (refine Qg rfl ?_; simp only [↓reduceIte, QpQ]) | (intro (b : Bool); cases b))
  simp only [QD, Ql, Qr, upd, ↓reduceIte, QpS, QpW]; first | refine Qc (htake _ _) (.keep (.v _)) ⟨by rw [txtA, if_neg (by rw [hr]; decide)], rfl⟩ | refine Qc List.take_length (.keep (.v _)) ⟨by rw [txtA, if_neg (by rw [hr]; decide)], rfl⟩
 | true =>
  rw [hr] at cr
  obtain ⟨hx, h6, hs0, hs1⟩ := QiE hr
  have hk := Qk1 (h := h ++ [AB.cells 45 2 [g.atom]] ++ [AB.dead, AB.dead]) (i := (h ++ [AB.cells 45 2 [g.atom]]).length) (j := (h ++ [AB.cells 45 2 [g.atom]]).length + 1) (p := h.length)
   (by simp) (by simp) (by omega) (by simp) (by simp; omega) g (by simp) hx hl (Qig hG _) false .empty (by rw [show (ByteArray.empty).size = 0 from rfl]; omega)
  rw [Wri, ByteArray.empty_append] at hk
  have c1 := Qij (.fn (.func 103) [] [.ptr h.length 0 0]) (.tup []) (funT g.name (txts g.args)) (h ++ [AB.cells 45 2 [g.atom]]) hs0 (by omega) (FunW.fn hk)
  refine Qh Tryz.func59 rfl Tryz.call59 Tryz.ntmps59 (congrArg Array.toList Tryz.results59) (by simp) ?_
  repeat (first | ((first | (with_reducible (first | refine Qa fun K E hK hE => ?_ | refine Qk fun K E hK hE => ?_ | refine Qp cr ?_ | refine Qz cr ?_ | refine FunW.ret (FunW.call c1) ?_))); simp -implicitDefEqProofs only [Qe, Qf, OpW, QK, aop, undef, AS.ev, Qv, AV.QoY, ↓reduceIte, QA, QB, ti45, QT, Xa, seval]) | (with_reducible (first | refine Qd fun K hK => ?_ | refine Qi ?_ | refine Qj ?_ | refine Q0 ?_ | refine Q1 ?_ | refine Qn ?_ | refine QC ?_ | refine Qb ?_ | refine Qq ?_ | refine Qw ?_ | refine Qo ?_ | refine Qs ?_ | refine Qy ?_ | refine QU rfl ?_)) | (with_reducible (first | refine hK _ ?_ | (clear hK; refine hK _ ?_) | (clear hK; clear hK; refine hK _ ?_) | (clear hK; clear hK; clear hK; refine hK _ ?_)); clear hK) | (refine Qg rfl ?_; simp only [↓reduceIte, QpQ]) | (intro (b : Bool); cases b))
  simp only [QD, Ql, Qr, upd, ↓reduceIte, QpS, QpW]; first | refine Qc (htake _ _) (.keep (.v _)) ⟨by rw [txtA, if_pos hr], rfl⟩ | refine Qc List.take_length (.keep (.v _)) ⟨by rw [txtA, if_pos hr], rfl⟩
mutual
def T.QoZ : T → Bool
 | .mk k i n l =>
  if k = 0 then decide (-2147483648 ≤ i ∧ i ≤ 2147483648) && Y8 n && l.isEmpty else
  if k = 1 then decide (0 ≤ i ∧ i ≤ 1048576) && Y8 n && l.isEmpty else
  if k = 2 then (if i ≠ 0 ∨ 6 < l.length then false else if (!Yv n && !(opB n && decide (l.length = 2))) = true then false else X4 l) else false
def X4 : List T → Bool
 | [] => true
 | t :: l => t.QoZ && X4 l
end
theorem T.Qo2 (t : T) : t.QoZ = if t.kind = 0 then decide (-2147483648 ≤ t.int ∧ t.int ≤ 2147483648) && Y8 t.name && t.args.isEmpty else
  if t.kind = 1 then decide (0 ≤ t.int ∧ t.int ≤ 1048576) && Y8 t.name && t.args.isEmpty else
  if t.kind = 2 then (if t.int ≠ 0 ∨ 6 < t.args.length then false else if (!Yv t.name && !(opB t.name && decide (t.args.length = 2))) = true then false else X4 t.args) else false := by
 cases t; rw [T.QoZ]; rfl
theorem QhM {l : List T} {k : Nat} (h : k < l.length) : X4 (l.drop k) = ((l[k]).QoZ && X4 (l.drop (k + 1))) := by
 rw [List.drop_eq_getElem_cons h]; simp only [X4]
theorem Qh9 {p q : Prop} [Decidable p] [Decidable q] : (decide p && decide q) = decide (p ∧ q) := by
 by_cases hp : p <;> by_cases hq : q <;> simp [hp, hq]
mutual
theorem T.Qo5 : ∀ (t : T) (b d : Int), (t.run b d).1 = (t.QoZ && decide ((t.size : Int) ≤ b ∧ (t.dep : Int) ≤ d)) ∧ ((t.run b d).1 = true → (t.run b d).2 = b - t.size)
 | .mk k i n l, b, d => by
  have hs := size_pos (.mk k i n l)
  have hd : 1 ≤ (T.mk k i n l).dep := by rw [T.QpB]; omega
  rw [T.run, T.QoZ]
  by_cases h1 : b - 1 < 0 ∨ d < 1
  ·rw [if_pos h1, decide_eq_false (show ¬ (((T.mk k i n l).size : Int) ≤ b ∧ ((T.mk k i n l).dep : Int) ≤ d) by omega), Bool.and_false]
   exact ⟨rfl, fun h => by cases h⟩
  rw [if_neg h1]
  have one : k ≠ 2 → (T.mk k i n l).size = 1 ∧ (T.mk k i n l).dep = 1 := fun h => by simp only [T.size, T.dep, if_neg h]; exact ⟨trivial, trivial⟩
  by_cases k0 : k = 0
  ·obtain ⟨e1, e2⟩ := one (by omega)
   rw [if_pos k0, if_pos k0, e1, e2, decide_eq_true (show ((1 : Nat) : Int) ≤ b ∧ ((1 : Nat) : Int) ≤ d by omega), Bool.and_true]
   exact ⟨rfl, fun _ => rfl⟩
  rw [if_neg k0, if_neg k0]
  by_cases k1 : k = 1
  ·obtain ⟨e1, e2⟩ := one (by omega)
   rw [if_pos k1, if_pos k1, e1, e2, decide_eq_true (show ((1 : Nat) : Int) ≤ b ∧ ((1 : Nat) : Int) ≤ d by omega), Bool.and_true]
   exact ⟨rfl, fun _ => rfl⟩
  rw [if_neg k1, if_neg k1]
  by_cases k2 : k = 2
  ·rw [if_pos k2, if_pos k2]
   by_cases h2 : i ≠ 0 ∨ 6 < l.length
   ·rw [if_pos h2, if_pos h2]; exact ⟨rfl, fun h => by cases h⟩
   rw [if_neg h2, if_neg h2]
   by_cases h3 : (!Yv n && !(opB n && decide (l.length = 2))) = true
   ·rw [if_pos h3, if_pos h3]; exact ⟨rfl, fun h => by cases h⟩
   rw [if_neg h3, if_neg h3]
   have e1 : (T.mk k i n l).size = 1 + sizes l := by simp only [T.size, if_pos k2]
   have e2 : (T.mk k i n l).dep = 1 + deps l := by simp only [T.dep, if_pos k2]
   obtain ⟨r1, r2⟩ := Qad l (b - 1) (d - 1) (by omega) (by omega)
   rw [e1, e2]
   refine ⟨?_, fun h => by rw [r2 h]; omega⟩
   rw [r1]
   congr 1
   exact decide_eq_decide.2 (by omega)
  ·rw [if_neg k2, if_neg k2]; exact ⟨rfl, fun h => by cases h⟩
theorem Qad : ∀ (l : List T) (b d : Int), 0 ≤ b → 0 ≤ d → (runL l b d).1 = (X4 l && decide ((sizes l : Int) ≤ b ∧ (deps l : Int) ≤ d)) ∧ ((runL l b d).1 = true → (runL l b d).2 = b - sizes l)
 | [], b, d, hb, hd => by
  rw [runL, X4, sizes, deps, decide_eq_true (show ((0 : Nat) : Int) ≤ b ∧ ((0 : Nat) : Int) ≤ d by omega)]
  exact ⟨rfl, fun _ => by omega⟩
 | t :: l, b, d, hb, hd => by
  obtain ⟨r1, r2⟩ := T.Qo5 t b d
  rw [runL, X4, sizes, deps]
  by_cases h : (t.run b d).1 = true
  ·rw [if_pos h]
   have e := r2 h
   rw [r1, Bool.and_eq_true, decide_eq_true_eq] at h
   obtain ⟨hf, h1, h2⟩ := h
   obtain ⟨q1, q2⟩ := Qad l (t.run b d).2 d (by omega) hd
   rw [hf, Bool.true_and]
   refine ⟨?_, fun h => by rw [q2 h]; omega⟩
   rw [q1]
   congr 1
   exact decide_eq_decide.2 (by omega)
  ·rw [if_neg h]
   refine ⟨?_, fun h => by cases h⟩
   rw [r1] at h
   cases hf : t.QoZ with
   | false => rfl
   | true =>
    rw [hf, Bool.true_and, decide_eq_true_eq] at h
    rw [decide_eq_false (by omega), Bool.and_false]
end
theorem T.Qpt (t : T) : (t.run 200 20).1 = (t.QoZ && (decide (t.size ≤ 200) && decide (t.dep ≤ 20))) := by
 rw [(T.Qo5 t 200 20).1, Qh9]
 congr 1
 exact decide_eq_decide.2 (by omega)
def rargs : List T → Nat → Bool
 | [], n => decide (n ≤ 200)
 | t :: l, n => (t.run 200 20).1 && rargs l (n + t.size)
theorem Qii : ∀ (l : List T) (n : Nat), 200 < n → rargs l n = false
 | [], n, h => by rw [rargs, decide_eq_false (by omega)]
 | t :: l, n, h => by rw [rargs, Qii l _ (by omega), Bool.and_false]
theorem Qgn : ∀ (l : List T) (n : Nat), n ≤ 200 → rargs l n = (runL l (200 - n) 20).1
 | [], n, h => by rw [rargs, runL, decide_eq_true h]
 | t :: l, n, h => by
  obtain ⟨r1, _⟩ := T.Qo5 t 200 20
  obtain ⟨q1, q2⟩ := T.Qo5 t (200 - n) 20
  rw [rargs, runL, r1]
  by_cases hq : (t.run (200 - n) 20).1 = true
  ·rw [if_pos hq, q2 hq]
   rw [q1, Bool.and_eq_true, decide_eq_true_eq] at hq
   rw [hq.1, decide_eq_true (by omega), Bool.true_and, Bool.true_and, Qgn l (n + t.size) (by omega)]
   congr 2; omega
  ·rw [if_neg hq]
   rw [q1] at hq
   cases hf : t.QoZ with
   | false => rfl
   | true =>
    rw [hf, Bool.true_and, decide_eq_true_eq] at hq
    by_cases h2 : n + t.size ≤ 200
    ·rw [decide_eq_false (by omega)]; rfl
    ·rw [Qii l _ (by omega), Bool.and_false]
theorem Qkj (l : List T) : rargs l 0 = (runL l 200 20).1 := by
 have := Qgn l 0 (by omega)
 simpa using this
mutual
theorem T.Qpc : ∀ t : T, t.size ≤ t.nds
 | .mk k i n l => by
  simp only [T.size, T.nds]
  have := Qdu l
  split <;> omega
theorem Qdu : ∀ l : List T, sizes l ≤ ndsL l
 | [] => Nat.le_refl _
 | t :: l => by
  simp only [sizes, ndsL]
  have := T.Qpc t
  have := Qdu l
  omega
end
theorem Qmy (t : T) (k0 : t.kind = 0) : Pure Tryz.prog 80 [t.av] (.b t.QoZ) := by
 intro h
 have z0 : (t.kind == 0) = true := by simp [k0]
 by_cases c1 : t.int ≥ -2147483648
 rotate_left
 ·have e1 : ¬ -2147483648 ≤ t.int := by omega
  have R : t.QoZ = false := by
   rw [T.Qo2, if_pos k0]; simp [e1]
  rw [R]
  refine Qh Tryz.func80 rfl Tryz.call80 Tryz.ntmps80 (congrArg Array.toList Tryz.results80) (by simp) ?_
  repeat (first | (((with_reducible refine Qa fun K E hK hE => ?_)); simp -implicitDefEqProofs only [Qe, Qf, OpW, aop, undef, AS.ev, Qv, AV.QoY, ↓reduceIte, Qm, QA, QB, aBin, ti3, QX, Q9, z0, c1, seval]) | (with_reducible (first | refine Qd fun K hK => ?_ | refine Qi ?_ | refine Qj ?_ | refine Qq ?_ | refine Qs ?_)) | ((with_reducible refine hK _ ?_); clear hK) | (refine Qg rfl ?_; simp only [↓reduceIte]))
  simp only [QD, Ql, Qr, upd, ↓reduceIte, QpS, QpW]; first | refine Qc (htake _ _) (.keep (.v _)) ⟨rfl, rfl⟩ | refine Qc List.take_length (.keep (.v _)) ⟨rfl, rfl⟩
 have e1 : -2147483648 ≤ t.int := by omega
 by_cases c2 : t.int ≤ 2147483648
 rotate_left
 ·skip
  have R : t.QoZ = false := by
   rw [T.Qo2, if_pos k0]; simp [e1, c2]
  rw [R]
  refine Qh Tryz.func80 rfl Tryz.call80 Tryz.ntmps80 (congrArg Array.toList Tryz.results80) (by simp) ?_
  repeat (first | (((with_reducible refine Qa fun K E hK hE => ?_)); simp -implicitDefEqProofs only [Qe, Qf, OpW, aop, undef, AS.ev, Qv, AV.QoY, ↓reduceIte, Qm, QA, QB, aBin, ti3, QX, Q9, z0, c1, c2, seval]) | (with_reducible (first | refine Qd fun K hK => ?_ | refine Qi ?_ | refine Qj ?_ | refine Qq ?_ | refine Qs ?_)) | ((with_reducible refine hK _ ?_); clear hK) | (refine Qg rfl ?_; simp only [↓reduceIte]))
  simp only [QD, Ql, Qr, upd, ↓reduceIte, QpS, QpW]; first | refine Qc (htake _ _) (.keep (.v _)) ⟨rfl, rfl⟩ | refine Qc List.take_length (.keep (.v _)) ⟨rfl, rfl⟩
 cases c3 : Y8 t.name with
 | false =>
  have c3' : (t.name.toList == ({ data := #[] } : ByteArray).toList) = false := c3
  have R : t.QoZ = false := by
   rw [T.Qo2, if_pos k0]; simp [e1, c2, c3]
  rw [R]
  refine Qh Tryz.func80 rfl Tryz.call80 Tryz.ntmps80 (congrArg Array.toList Tryz.results80) (by simp) ?_
  repeat (first | (((with_reducible refine Qa fun K E hK hE => ?_)); simp -implicitDefEqProofs only [Qe, Qf, OpW, aop, undef, AS.ev, Qv, AV.QoY, ↓reduceIte, Qm, QA, QB, aBin, ti3, ti9, QX, Q9, Xl, z0, c1, c2, c3', seval]) | (with_reducible (first | refine Qd fun K hK => ?_ | refine Qi ?_ | refine Qj ?_ | refine Qq ?_ | refine Qs ?_)) | ((with_reducible refine hK _ ?_); clear hK) | (refine Qg rfl ?_; simp only [↓reduceIte]))
  simp only [QD, Ql, Qr, upd, ↓reduceIte, QpS, QpW]; first | refine Qc (htake _ _) (.keep (.v _)) ⟨rfl, rfl⟩ | refine Qc List.take_length (.keep (.v _)) ⟨rfl, rfl⟩
 | true =>
  have c3' : (t.name.toList == ({ data := #[] } : ByteArray).toList) = true := c3
  cases hl : t.args with
  | nil =>
   have c4 : ((0 : Int) == 0) = true := rfl
   have R : t.QoZ = true := by
    rw [T.Qo2, if_pos k0]; simp [e1, c2, c3, hl]
   rw [R]
   refine Qh Tryz.func80 rfl Tryz.call80 Tryz.ntmps80 (congrArg Array.toList Tryz.results80) (by simp) ?_
   repeat (first | (((with_reducible refine Qa fun K E hK hE => ?_)); simp -implicitDefEqProofs only [Qe, Qf, OpW, aop, undef, AS.ev, Qv, AV.QoY, ↓reduceIte, Qm, QA, QB, aBin, aLen, goInt, ti3, ti9, ti29, un29, QX, Q9, Xl, Xc, z0, c1, c2, c3', hl, Qam, seval]) | (with_reducible (first | refine Qd fun K hK => ?_ | refine Qi ?_ | refine Qj ?_ | refine Qq ?_ | refine Qs ?_)) | ((with_reducible refine hK _ ?_); clear hK) | (refine Qg rfl ?_; simp only [↓reduceIte]))
   simp only [QD, Ql, Qr, upd, ↓reduceIte, QpS, QpW]; first | refine Qc (htake _ _) (.keep (.v _)) ⟨rfl, rfl⟩ | refine Qc List.take_length (.keep (.v _)) ⟨rfl, rfl⟩
  | cons a l =>
   have c4 : (((l.length + 1 : Nat) : Int) == 0) = false := by simp; omega
   have R : t.QoZ = false := by
    rw [T.Qo2, if_pos k0]; simp [e1, c2, c3, hl]
   rw [R]
   refine Qh Tryz.func80 rfl Tryz.call80 Tryz.ntmps80 (congrArg Array.toList Tryz.results80) (by simp) ?_
   repeat (first | (((with_reducible refine Qa fun K E hK hE => ?_)); simp -implicitDefEqProofs only [Qe, Qf, OpW, aop, undef, AS.ev, Qv, AV.QoY, ↓reduceIte, Qm, QA, QB, aBin, aLen, goInt, ti3, ti9, ti29, un29, QX, Q9, Xl, Xc, z0, c1, c2, c3', hl, c4, seval]) | (with_reducible (first | refine Qd fun K hK => ?_ | refine Qi ?_ | refine Qj ?_ | refine Qq ?_ | refine Qs ?_)) | ((with_reducible refine hK _ ?_); clear hK) | (refine Qg rfl ?_; simp only [↓reduceIte]))
   simp only [QD, Ql, Qr, upd, ↓reduceIte, QpS, QpW]; first | refine Qc (htake _ _) (.keep (.v _)) ⟨rfl, rfl⟩ | refine Qc List.take_length (.keep (.v _)) ⟨rfl, rfl⟩
theorem Qmw (t : T) (k1 : t.kind = 1) : Pure Tryz.prog 80 [t.av] (.b t.QoZ) := by
 intro h
 have k0 : ¬ t.kind = 0 := by omega
 have z0 : (t.kind == 0) = false := by simp [k1]
 have z1 : (t.kind == 1) = true := by simp [k1]
 by_cases c1 : t.int ≥ 0
 rotate_left
 ·have e1 : ¬ 0 ≤ t.int := by omega
  have R : t.QoZ = false := by
   rw [T.Qo2, if_neg k0, if_pos k1]; simp [e1]
  rw [R]
  refine Qh Tryz.func80 rfl Tryz.call80 Tryz.ntmps80 (congrArg Array.toList Tryz.results80) (by simp) ?_
  repeat (first | (((with_reducible refine Qa fun K E hK hE => ?_)); simp -implicitDefEqProofs only [Qe, Qf, OpW, aop, undef, AS.ev, Qv, AV.QoY, ↓reduceIte, Qm, QA, QB, aBin, ti3, QX, Q9, z0, z1, c1, seval]) | (with_reducible (first | refine Qd fun K hK => ?_ | refine Qi ?_ | refine Qj ?_ | refine Qq ?_ | refine Qs ?_)) | ((with_reducible refine hK _ ?_); clear hK) | (refine Qg rfl ?_; simp only [↓reduceIte, QpQ]))
  simp only [QD, Ql, Qr, upd, ↓reduceIte, QpS, QpW]; first | refine Qc (htake _ _) (.keep (.v _)) ⟨rfl, rfl⟩ | refine Qc List.take_length (.keep (.v _)) ⟨rfl, rfl⟩
 have e1 : 0 ≤ t.int := by omega
 by_cases c2 : t.int ≤ 1048576
 rotate_left
 ·skip
  have R : t.QoZ = false := by
   rw [T.Qo2, if_neg k0, if_pos k1]; simp [e1, c2]
  rw [R]
  refine Qh Tryz.func80 rfl Tryz.call80 Tryz.ntmps80 (congrArg Array.toList Tryz.results80) (by simp) ?_
  repeat (first | (((with_reducible refine Qa fun K E hK hE => ?_)); simp -implicitDefEqProofs only [Qe, Qf, OpW, aop, undef, AS.ev, Qv, AV.QoY, ↓reduceIte, Qm, QA, QB, aBin, ti3, QX, Q9, z0, z1, c1, c2, seval]) | (with_reducible (first | refine Qd fun K hK => ?_ | refine Qi ?_ | refine Qj ?_ | refine Qq ?_ | refine Qs ?_)) | ((with_reducible refine hK _ ?_); clear hK) | (refine Qg rfl ?_; simp only [↓reduceIte, QpQ]))
  simp only [QD, Ql, Qr, upd, ↓reduceIte, QpS, QpW]; first | refine Qc (htake _ _) (.keep (.v _)) ⟨rfl, rfl⟩ | refine Qc List.take_length (.keep (.v _)) ⟨rfl, rfl⟩
 cases c3 : Y8 t.name with
 | false =>
  have c3' : (t.name.toList == ({ data := #[] } : ByteArray).toList) = false := c3
  have R : t.QoZ = false := by
   rw [T.Qo2, if_neg k0, if_pos k1]; simp [e1, c2, c3]
  rw [R]
  refine Qh Tryz.func80 rfl Tryz.call80 Tryz.ntmps80 (congrArg Array.toList Tryz.results80) (by simp) ?_
  repeat (first | (((with_reducible refine Qa fun K E hK hE => ?_)); simp -implicitDefEqProofs only [Qe, Qf, OpW, aop, undef, AS.ev, Qv, AV.QoY, ↓reduceIte, Qm, QA, QB, aBin, ti3, ti9, QX, Q9, Xl, z0, z1, c1, c2, c3', seval]) | (with_reducible (first | refine Qd fun K hK => ?_ | refine Qi ?_ | refine Qj ?_ | refine Qq ?_ | refine Qs ?_)) | ((with_reducible refine hK _ ?_); clear hK) | (refine Qg rfl ?_; simp only [↓reduceIte, QpQ]))
  simp only [QD, Ql, Qr, upd, ↓reduceIte, QpS, QpW]; first | refine Qc (htake _ _) (.keep (.v _)) ⟨rfl, rfl⟩ | refine Qc List.take_length (.keep (.v _)) ⟨rfl, rfl⟩
 | true =>
  have c3' : (t.name.toList == ({ data := #[] } : ByteArray).toList) = true := c3
  cases hl : t.args with
  | nil =>
   have c4 : ((0 : Int) == 0) = true := rfl
   have R : t.QoZ = true := by
    rw [T.Qo2, if_neg k0, if_pos k1]; simp [e1, c2, c3, hl]
   rw [R]
   refine Qh Tryz.func80 rfl Tryz.call80 Tryz.ntmps80 (congrArg Array.toList Tryz.results80) (by simp) ?_
   repeat (first | (((with_reducible refine Qa fun K E hK hE => ?_)); simp -implicitDefEqProofs only [Qe, Qf, OpW, aop, undef, AS.ev, Qv, AV.QoY, ↓reduceIte, Qm, QA, QB, aBin, aLen, goInt, ti3, ti9, ti29, un29, QX, Q9, Xl, Xc, z0, z1, c1, c2, c3', hl, Qam, seval]) | (with_reducible (first | refine Qd fun K hK => ?_ | refine Qi ?_ | refine Qj ?_ | refine Qq ?_ | refine Qs ?_)) | ((with_reducible refine hK _ ?_); clear hK) | (refine Qg rfl ?_; simp only [↓reduceIte, QpQ]))
   simp only [QD, Ql, Qr, upd, ↓reduceIte, QpS, QpW]; first | refine Qc (htake _ _) (.keep (.v _)) ⟨rfl, rfl⟩ | refine Qc List.take_length (.keep (.v _)) ⟨rfl, rfl⟩
  | cons a l =>
   have c4 : (((l.length + 1 : Nat) : Int) == 0) = false := by simp; omega
   have R : t.QoZ = false := by
    rw [T.Qo2, if_neg k0, if_pos k1]; simp [e1, c2, c3, hl]
   rw [R]
   refine Qh Tryz.func80 rfl Tryz.call80 Tryz.ntmps80 (congrArg Array.toList Tryz.results80) (by simp) ?_
   repeat (first | (((with_reducible refine Qa fun K E hK hE => ?_)); simp -implicitDefEqProofs only [Qe, Qf, OpW, aop, undef, AS.ev, Qv, AV.QoY, ↓reduceIte, Qm, QA, QB, aBin, aLen, goInt, ti3, ti9, ti29, un29, QX, Q9, Xl, Xc, z0, z1, c1, c2, c3', hl, c4, seval]) | (with_reducible (first | refine Qd fun K hK => ?_ | refine Qi ?_ | refine Qj ?_ | refine Qq ?_ | refine Qs ?_)) | ((with_reducible refine hK _ ?_); clear hK) | (refine Qg rfl ?_; simp only [↓reduceIte, QpQ]))
   simp only [QD, Ql, Qr, upd, ↓reduceIte, QpS, QpW]; first | refine Qc (htake _ _) (.keep (.v _)) ⟨rfl, rfl⟩ | refine Qc List.take_length (.keep (.v _)) ⟨rfl, rfl⟩
theorem QiQ (t : T) (k0 : ¬ t.kind = 0) (k1 : ¬ t.kind = 1) (k2 : ¬ t.kind = 2) : Pure Tryz.prog 80 [t.av] (.b t.QoZ) := by
 intro h
 have z0 : (t.kind == 0) = false := by simp [k0]
 have z1 : (t.kind == 1) = false := by simp [k1]
 have z2 : (t.kind == 2) = false := by simp [k2]
 have R : t.QoZ = false := by
  rw [T.Qo2, if_neg k0, if_neg k1, if_neg k2]
 rw [R]
 refine Qh Tryz.func80 rfl Tryz.call80 Tryz.ntmps80 (congrArg Array.toList Tryz.results80) (by simp) ?_
 repeat (first | (((with_reducible refine Qa fun K E hK hE => ?_)); simp -implicitDefEqProofs only [Qe, Qf, OpW, aop, undef, AS.ev, Qv, AV.QoY, ↓reduceIte, Qm, QA, QB, aBin, ti3, QX, z0, z1, z2, seval]) | (with_reducible (first | refine Qd fun K hK => ?_ | refine Qi ?_ | refine Qj ?_ | refine Qn ?_ | refine Qb ?_ | refine Qo ?_)) | ((with_reducible refine hK _ ?_); clear hK) | (refine Qg rfl ?_; simp only [↓reduceIte, QpQ]))
 simp only [QD, Ql, Qr, upd, ↓reduceIte, QpS, QpW]; first | refine Qc (htake _ _) (.keep (.v _)) ⟨rfl, rfl⟩ | refine Qc List.take_length (.keep (.v _)) ⟨rfl, rfl⟩
theorem QmG (n : Nat) (hb : n ≤ 1000000) (ih : ∀ t : T, t.nds ≤ n → t.ok → Pure Tryz.prog 80 [t.av] (.b t.QoZ)) (t : T) (hn : t.nds ≤ n + 1) (ho : t.ok) (k2 : t.kind = 2) :
  Pure Tryz.prog 80 [t.av] (.b t.QoZ) := by
 intro h
 have k0 : ¬ t.kind = 0 := by omega
 have k1 : ¬ t.kind = 1 := by omega
 have z0 : (t.kind == 0) = false := by simp [k2]
 have z1 : (t.kind == 1) = false := by simp [k2]
 have z2 : (t.kind == 2) = true := by simp [k2]
 obtain ⟨o1, o2, o3, o4⟩ := (T.ok_eq t).1 ho
 have hnd := T.Qo1 t
 have hll := QW t.args
 have co := QcB t.name
 have cr : Pure Tryz.prog 47 [.v (.string t.name)] (.b (Yv t.name)) := QbB t.name (by simp only [maxLen]; omega)
 refine Qh Tryz.func80 rfl Tryz.call80 Tryz.ntmps80 (congrArg Array.toList Tryz.results80) (by simp) ?_
 iterate 15 (try (first | (((with_reducible refine Qa fun K E hK hE => ?_)); simp -implicitDefEqProofs only [Qe, Qf, OpW, aop, undef, AS.ev, Qv, AV.QoY, ↓reduceIte, Qm, QA, QB, aBin, ti3, QX, z0, z1, z2, seval]) | (with_reducible (first | refine Qd fun K hK => ?_ | refine Qi ?_)) | ((with_reducible refine hK _ ?_); clear hK) | (refine Qg rfl ?_; simp only [↓reduceIte, QpQ])))
 refine Yb (fun s => s.tm 3 = .b (opB t.name && decide (t.args.length = 2)) ∧ s.tm 1 = .ptr h.length 0 0 ∧ s.h = h ++ [.cells 41 4 [t.av]]) ?_ ?_
 rotate_left
 ·cases ho : opB t.name with
  | false =>
   rw [ho] at co
   repeat (first | ((first | (with_reducible (first | refine Qk fun K E hK hE => ?_ | refine Qp co ?_))); simp -implicitDefEqProofs only [Qe, Qf, OpW, QK, aop, undef, AS.ev, ↓reduceIte, Qm, QA, QB, ti9, Xl, seval]) | (with_reducible refine Qb ?_) | ((with_reducible refine hK _ ?_); clear hK))
   exact ⟨rfl, rfl, rfl⟩
  | true =>
   rw [ho] at co
   by_cases hl2 : t.args.length = 2
   ·have h2 : ((t.args.length : Int) == 2) = true := by rw [hl2]; rfl
    rw [decide_eq_true hl2]
    repeat (first | ((first | (with_reducible (first | refine Qk fun K E hK hE => ?_ | refine Qp co ?_))); simp -implicitDefEqProofs only [Qe, Qf, OpW, QK, aop, AS.ev, ↓reduceIte, Qm, QA, QB, aBin, aLen, goInt, ti9, ti29, un29, Xl, Xc, h2, seval]) | (with_reducible refine Qb ?_) | ((with_reducible refine hK _ ?_); clear hK))
    exact ⟨rfl, rfl, rfl⟩
   ·have h2 : ((t.args.length : Int) == 2) = false := by rw [beq_eq_false_iff_ne]; omega
    rw [decide_eq_false hl2]
    repeat (first | ((first | (with_reducible (first | refine Qk fun K E hK hE => ?_ | refine Qp co ?_))); simp -implicitDefEqProofs only [Qe, Qf, OpW, QK, aop, AS.ev, ↓reduceIte, Qm, QA, QB, aBin, aLen, goInt, ti9, ti29, un29, Xl, Xc, h2, seval]) | (with_reducible refine Qb ?_) | ((with_reducible refine hK _ ?_); clear hK))
    exact ⟨rfl, rfl, rfl⟩
 rintro ⟨tm, hp⟩ ⟨t3, t1, hh⟩
 dsimp only at t3 t1 hh
 subst hh
 obtain ⟨p, ep⟩ : ∃ p, p = (opB t.name && decide (t.args.length = 2)) := ⟨_, rfl⟩
 rw [← ep] at t3
 have RR : t.QoZ = if t.int ≠ 0 ∨ 6 < t.args.length then false else if (!Yv t.name && !p) = true then false else X4 t.args := by rw [T.Qo2, if_neg k0, if_neg k1, if_pos k2, ← ep]
 refine Yb (fun s => t.QoZ = X4 t.args ∧ t.args.length ≤ 6 ∧ s.tm 1 = .ptr h.length 0 0 ∧ s.h = h ++ [.cells 41 4 [t.av]]) ?_ ?_
 rotate_left
 ·by_cases i0 : t.int = 0
  rotate_left
  ·have y0 : (t.int != 0) = true := by simp [i0]
   have R : t.QoZ = false := by rw [RR, if_pos (.inl i0)]
   rw [R]
   repeat (first | (((with_reducible refine Qa fun K E hK hE => ?_)); simp -implicitDefEqProofs only [Qe, Qf, OpW, aop, undef, AS.ev, ↓reduceIte, Qm, QA, QB, aBin, ti3, Q9, t1, y0, seval]) | (with_reducible (first | refine Qj ?_ | refine Qq ?_ | refine Qs ?_)) | ((with_reducible refine hK _ ?_); clear hK) | (refine Qg rfl ?_; simp only [↓reduceIte]))
   simp only [QD, Ql, Qr, upd, ↓reduceIte, QpS, QpW]; first | refine Qc (htake _ _) (.keep (.v _)) ⟨rfl, rfl⟩ | refine Qc List.take_length (.keep (.v _)) ⟨rfl, rfl⟩
  have y0 : (t.int != 0) = false := by simp [i0]
  cases p with
  | true =>
   have hl2 : t.args.length = 2 := by
    have := ep.symm; rw [Bool.and_eq_true, decide_eq_true_eq] at this; exact this.2
   have R : t.QoZ = X4 t.args := by rw [RR, if_neg (by omega), if_neg (by simp)]
   repeat (first | (((with_reducible refine Qa fun K E hK hE => ?_)); simp -implicitDefEqProofs only [Qe, Qf, OpW, aop, undef, AS.ev, ↓reduceIte, Qm, QA, QB, aBin, ti3, Q9, t1, t3, y0, seval]) | (with_reducible (first | refine Qn ?_ | refine Qb ?_)) | ((with_reducible refine hK _ ?_); clear hK) | (refine Qg rfl ?_; simp only [↓reduceIte, QpQ]))
   exact ⟨R, by omega, t1, rfl⟩
  | false =>
   cases hr : Yv t.name with
   | false =>
    rw [hr] at cr
    have R : t.QoZ = false := by rw [RR]; split; rfl; rw [if_pos (by rw [hr]; rfl)]
    rw [R]
    repeat (first | ((first | (with_reducible (first | refine Qa fun K E hK hE => ?_ | refine Qp cr ?_))); simp -implicitDefEqProofs only [Qe, Qf, OpW, QK, aop, undef, AS.ev, ↓reduceIte, Qm, QA, QB, aBin, ti3, ti9, Q9, Xl, t1, t3, y0, seval]) | (with_reducible (first | refine Qj ?_ | refine Qq ?_ | refine Qs ?_)) | ((with_reducible refine hK _ ?_); clear hK) | (refine Qg rfl ?_; simp only [↓reduceIte]))
    simp only [QD, Ql, Qr, upd, ↓reduceIte, QpS, QpW]; first | refine Qc (htake _ _) (.keep (.v _)) ⟨rfl, rfl⟩ | refine Qc List.take_length (.keep (.v _)) ⟨rfl, rfl⟩
   | true =>
    rw [hr] at cr
    by_cases a6 : t.args.length > 6
    ·have y6 : (t.args.length : Int) > 6 := by omega
     have R : t.QoZ = false := by rw [RR, if_pos (.inr a6)]
     rw [R]
     repeat (first | ((first | (with_reducible (first | refine Qa fun K E hK hE => ?_ | refine Qp cr ?_))); simp -implicitDefEqProofs only [Qe, Qf, OpW, QK, aop, AS.ev, ↓reduceIte, Qm, QA, QB, aBin, aLen, goInt, ti3, ti9, ti29, un29, Q9, Xl, Xc, t1, t3, y0, y6, seval]) | (with_reducible (first | refine Qj ?_ | refine Qq ?_ | refine Qs ?_)) | ((with_reducible refine hK _ ?_); clear hK) | (refine Qg rfl ?_; simp only [↓reduceIte]))
     simp only [QD, Ql, Qr, upd, ↓reduceIte, QpS, QpW]; first | refine Qc (htake _ _) (.keep (.v _)) ⟨rfl, rfl⟩ | refine Qc List.take_length (.keep (.v _)) ⟨rfl, rfl⟩
    ·have y6 : ¬ (t.args.length : Int) > 6 := by omega
     have R : t.QoZ = X4 t.args := by rw [RR, if_neg (by omega), if_neg (by rw [hr]; simp)]
     repeat (first | ((first | (with_reducible (first | refine Qa fun K E hK hE => ?_ | refine Qp cr ?_))); simp -implicitDefEqProofs only [Qe, Qf, OpW, QK, aop, AS.ev, ↓reduceIte, Qm, QA, QB, aBin, aLen, goInt, ti3, ti9, ti29, un29, Q9, Xl, Xc, t1, t3, y0, y6, seval]) | (with_reducible (first | refine Qn ?_ | refine Qb ?_)) | ((with_reducible refine hK _ ?_); clear hK) | (refine Qg rfl ?_; simp only [↓reduceIte, QpQ]))
     exact ⟨R, by omega, t1, rfl⟩
 rintro ⟨tm, hp⟩ ⟨R, hl6, t1, hh⟩
 dsimp only at t1 hh
 subst hh
 rw [R]
 repeat (first | (((with_reducible refine Qa fun K E hK hE => ?_)); simp -implicitDefEqProofs only [Q4, Q2, Qf, OpW, aop, AS.ev, Q6, QeV, Nat.reduceLT]) | (with_reducible (first | refine Qd fun K hK => ?_ | refine Qi ?_)) | ((with_reducible refine hK _ ?_); clear hK))
 obtain ⟨I, hI⟩ : ∃ I : Nat → AS → Prop, I = fun m' s => ∃ (k : Nat), m' = t.args.length - k ∧ k ≤ t.args.length ∧ X4 t.args = X4 (t.args.drop k) ∧ s.tm 1 = .ptr h.length 0 0 ∧ s.tm 4 = .i k ∧ s.h = h ++ [AB.cells 41 4 [t.av]] := ⟨_, rfl⟩; refine QI I ?_ (m := t.args.length) ?_
 ·intro m' s hs; rw [hI] at hs; obtain ⟨tm, hp⟩ := s; dsimp only at hs; obtain ⟨k, rfl, hk, he, t1, t4, rfl⟩ := hs
  by_cases hlt : k < t.args.length
  ·have hg := Q3 hlt
   have z9 : (k : Int) < t.args.length := by omega
   have c := ih t.args[k] (by have := XM hlt; omega) (QbL hlt o4)
   rw [QhM hlt] at he
   cases hr : (t.args[k]).QoZ with
   | true =>
    rw [hr] at c he
    repeat (first | ((first | (with_reducible (first | refine Qa fun K E hK hE => ?_ | refine Qk fun K E hK hE => ?_ | refine Qp c ?_))); simp -implicitDefEqProofs only [Qe, Qf, OpW, QK, aop, AS.ev, ↓reduceIte, Qm, QA, QB, Qt, aBin, aLen, goInt, ti29, ei29, un29, ti41, Xc, t1, t4, z9, hg, seval]) | (with_reducible (first | refine Qd fun K hK => ?_ | refine Qi ?_ | refine Qn ?_ | refine Qb ?_ | refine Qo ?_)) | ((with_reducible refine hK _ ?_); clear hK) | (refine Qg rfl ?_; simp only [↓reduceIte, QpQ]))
    refine QV.mk (m' := t.args.length - (k + 1)) (by omega) ?_
    rw [hI]
    refine ⟨k + 1, rfl, hlt, by rw [he]; rfl, t1, ?_, rfl⟩
    simp only [upd, ↓reduceIte]
    rw [QP (by omega)]
   | false =>
    rw [hr] at c he
    repeat (first | ((first | (with_reducible (first | refine Qa fun K E hK hE => ?_ | refine Qp c ?_))); simp -implicitDefEqProofs only [Qe, Qf, OpW, QK, aop, AS.ev, ↓reduceIte, Qm, QA, QB, Qt, aBin, aLen, goInt, ti29, ei29, un29, ti41, Xc, t1, t4, z9, hg, seval]) | (with_reducible (first | refine Qd fun K hK => ?_ | refine Qi ?_ | refine Qj ?_ | refine Qn ?_ | refine Qb ?_ | refine Qq ?_ | refine Qs ?_)) | ((with_reducible refine hK _ ?_); clear hK) | (refine Qg rfl ?_; simp only [↓reduceIte]))
    simp only [QD, Ql, Qr, upd, ↓reduceIte, QpS, QpW]; first | refine Qc (htake _ _) (.keep (.v _)) ⟨by rw [he]; rfl, rfl⟩ | refine Qc List.take_length (.keep (.v _)) ⟨by rw [he]; rfl, rfl⟩
  ·have z9 : ¬ (k : Int) < t.args.length := by omega
   have hkl : k = t.args.length := by omega
   rw [hkl, List.drop_length] at he
   repeat (first | (((with_reducible refine Qa fun K E hK hE => ?_)); simp -implicitDefEqProofs only [Qe, Qf, OpW, aop, AS.ev, ↓reduceIte, Qm, QA, QB, aBin, aLen, goInt, ti29, un29, Xc, t1, t4, z9, seval]) | (with_reducible (first | refine Qd fun K hK => ?_ | refine Qj ?_ | refine QC ?_ | refine Qb ?_ | refine Qq ?_ | refine Qw ?_ | refine Qs ?_ | refine Qy ?_)) | ((with_reducible refine hK _ ?_); clear hK) | (clear hK; (with_reducible refine hK _ ?_); clear hK) | (refine Qg rfl ?_; simp only [↓reduceIte, QpQ]))
   simp only [QD, Ql, Qr, upd, ↓reduceIte, QpS, QpW]; first | refine Qc (htake _ _) (.keep (.v _)) ⟨by rw [he]; rfl, rfl⟩ | refine Qc List.take_length (.keep (.v _)) ⟨by rw [he]; rfl, rfl⟩
 ·rw [hI]
  exact ⟨0, by omega, Nat.zero_le _, by rw [List.drop_zero], t1, rfl, rfl⟩
theorem Qf4 (n : Nat) : n ≤ 1000000 → ∀ t : T, t.nds ≤ n → t.ok → Pure Tryz.prog 80 [t.av] (.b t.QoZ) := by
 induction n with
 | zero => intro _ t hn _; have := T.Qo1 t; omega
 | succ n ih =>
  intro hb t hn ho
  by_cases k0 : t.kind = 0
  ·exact Qmy t k0
  by_cases k1 : t.kind = 1
  ·exact Qmw t k1
  by_cases k2 : t.kind = 2
  ·exact QmG n (by omega) (ih (by omega)) t hn ho k2
  ·exact QiQ t k0 k1 k2
theorem QaV (t : T) (hn : t.nds ≤ 1000000) (ho : t.ok) : Pure Tryz.prog 42 [t.av] (.b (t.run 200 20).1) := by
 intro h
 have hs := T.Qpc t
 have c1 := Qf4 1000000 (Nat.le_refl _) t hn ho
 have c2 := Qck 1000000 t (by omega) (Nat.le_refl _)
 have c3 := Qfo 1000000 t (by omega) (Nat.le_refl _)
 rw [T.Qpt]
 cases hf : t.QoZ with
 | false =>
  rw [hf] at c1
  refine Qh Tryz.func42 rfl Tryz.call42 Tryz.ntmps42 (congrArg Array.toList Tryz.results42) (by simp) ?_
  repeat (first | ((first | (with_reducible (first | refine Qa fun K E hK hE => ?_ | refine Qp c1 ?_))); simp -implicitDefEqProofs only [Qe, Qf, OpW, QK, aop, undef, AS.ev, Qv, AV.QoY, ↓reduceIte, QA, QB, ti41, seval]) | (with_reducible refine Qj ?_) | ((with_reducible refine hK _ ?_); clear hK))
  simp only [QD, Ql, Qr, upd, ↓reduceIte, QpS, QpW]; first | refine Qc (htake _ _) (.keep (.v _)) ⟨rfl, rfl⟩ | refine Qc List.take_length (.keep (.v _)) ⟨rfl, rfl⟩
 | true =>
  rw [hf] at c1
  by_cases q1 : t.size ≤ 200
  ·have z1 : (t.size : Int) ≤ 200 := by omega
   by_cases q2 : t.dep ≤ 20
   ·have z2 : (t.dep : Int) ≤ 20 := by omega
    rw [decide_eq_true q1, decide_eq_true q2]
    refine Qh Tryz.func42 rfl Tryz.call42 Tryz.ntmps42 (congrArg Array.toList Tryz.results42) (by simp) ?_
    repeat (first | ((first | (with_reducible (first | refine Qa fun K E hK hE => ?_ | refine Qp c1 ?_ | refine Qp c2 ?_ | refine Qp c3 ?_))); simp -implicitDefEqProofs only [Qe, Qf, OpW, QK, aop, undef, AS.ev, Qv, AV.QoY, ↓reduceIte, QA, QB, aBin, ti41, z1, z2, seval]) | (with_reducible refine Qj ?_) | ((with_reducible refine hK _ ?_); clear hK))
    simp only [QD, Ql, Qr, upd, ↓reduceIte, QpS, QpW]; first | refine Qc (htake _ _) (.keep (.v _)) ⟨rfl, rfl⟩ | refine Qc List.take_length (.keep (.v _)) ⟨rfl, rfl⟩
   ·have z2 : ¬ (t.dep : Int) ≤ 20 := by omega
    rw [decide_eq_true q1, decide_eq_false q2]
    refine Qh Tryz.func42 rfl Tryz.call42 Tryz.ntmps42 (congrArg Array.toList Tryz.results42) (by simp) ?_
    repeat (first | ((first | (with_reducible (first | refine Qa fun K E hK hE => ?_ | refine Qp c1 ?_ | refine Qp c2 ?_ | refine Qp c3 ?_))); simp -implicitDefEqProofs only [Qe, Qf, OpW, QK, aop, undef, AS.ev, Qv, AV.QoY, ↓reduceIte, QA, QB, aBin, ti41, z1, z2, seval]) | (with_reducible refine Qj ?_) | ((with_reducible refine hK _ ?_); clear hK))
    simp only [QD, Ql, Qr, upd, ↓reduceIte, QpS, QpW]; first | refine Qc (htake _ _) (.keep (.v _)) ⟨rfl, rfl⟩ | refine Qc List.take_length (.keep (.v _)) ⟨rfl, rfl⟩
  ·have z1 : ¬ (t.size : Int) ≤ 200 := by omega
   rw [decide_eq_false q1]
   refine Qh Tryz.func42 rfl Tryz.call42 Tryz.ntmps42 (congrArg Array.toList Tryz.results42) (by simp) ?_
   repeat (first | ((first | (with_reducible (first | refine Qa fun K E hK hE => ?_ | refine Qp c1 ?_ | refine Qp c2 ?_))); simp -implicitDefEqProofs only [Qe, Qf, OpW, QK, aop, undef, AS.ev, Qv, AV.QoY, ↓reduceIte, QA, QB, aBin, ti41, z1, seval]) | (with_reducible refine Qj ?_) | ((with_reducible refine hK _ ?_); clear hK))
   simp only [QD, Ql, Qr, upd, ↓reduceIte, QpS, QpW]; first | refine Qc (htake _ _) (.keep (.v _)) ⟨rfl, rfl⟩ | refine Qc List.take_length (.keep (.v _)) ⟨rfl, rfl⟩
theorem QbO (l : List T) (hn : ndsL l ≤ 1000000) (ho : oks l) : Pure Tryz.prog 48 [.sl 4 (avs l) none] (.b (runL l 200 20).1) := by
 intro h
 have hll := QW l
 rw [← Qkj]
 refine Qh Tryz.func48 rfl Tryz.call48 Tryz.ntmps48 (congrArg Array.toList Tryz.results48) (by simp) ?_
 repeat (first | (((with_reducible refine Qa fun K E hK hE => ?_)); simp -implicitDefEqProofs only [Qe, Qf, OpW, aop, AS.ev, Nat.reduceLT]) | (with_reducible (first | refine Qd fun K hK => ?_ | refine Qi ?_)) | ((with_reducible refine hK _ ?_); clear hK))
 obtain ⟨I, hI⟩ : ∃ I : Nat → AS → Prop, I = fun m' s => ∃ (k n : Nat), m' = l.length - k ∧ k ≤ l.length ∧ n + sizes (l.drop k) ≤ 1000000 ∧ rargs l 0 = rargs (l.drop k) n ∧ s.tm 0 = .sl 4 (avs l) none ∧ s.tm 3 = .i n ∧ s.tm 4 = .i k ∧ s.h = h := ⟨_, rfl⟩; refine QI I ?_ (m := l.length) ?_
 ·intro m' s hs; rw [hI] at hs; obtain ⟨tm, hp⟩ := s; dsimp only at hs; obtain ⟨k, n, rfl, hk, hs, he, t0, t3, t4, rfl⟩ := hs
  by_cases hlt : k < l.length
  ·have hg := Q3 hlt
   have z9 : (k : Int) < l.length := by omega
   have hnk : (l[k]).nds ≤ 1000000 := by have := XM hlt; omega
   have c := QaV l[k] hnk (QbL hlt ho)
   have c2 := Qck 1000000 l[k] (by have := T.Qpc l[k]; omega) (Nat.le_refl _)
   rw [List.drop_eq_getElem_cons hlt, rargs] at he
   rw [List.drop_eq_getElem_cons hlt, sizes] at hs
   have hw : IntKind.i64.wrap ((n : Int) + ((l[k]).size : Nat)) = ((n + (l[k]).size : Nat) : Int) := by rw [Xp (by omega)]; omega
   cases hr : ((l[k]).run 200 20).1 with
   | true =>
    rw [hr] at c he
    repeat (first | ((first | (with_reducible (first | refine Qa fun K E hK hE => ?_ | refine Qk fun K E hK hE => ?_ | refine Qp c ?_ | refine Qp c2 ?_))); simp -implicitDefEqProofs only [Qe, Qf, OpW, QK, aop, AS.ev, ↓reduceIte, QA, QB, Qt, aBin, aLen, goInt, ei29, un29, ti41, t0, t3, t4, z9, hg, hw, seval]) | (with_reducible (first | refine Qd fun K hK => ?_ | refine Qi ?_ | refine Qn ?_ | refine Qb ?_ | refine Qo ?_)) | ((with_reducible refine hK _ ?_); clear hK) | (refine Qg rfl ?_; simp only [↓reduceIte, QpQ]))
    refine QV.mk (m' := l.length - (k + 1)) (by omega) ?_
    rw [hI]
    refine ⟨k + 1, n + (l[k]).size, rfl, hlt, by omega, by rw [he]; rfl, t0, rfl, ?_, rfl⟩
    simp only [upd, ↓reduceIte]
    rw [QP (by omega)]
   | false =>
    rw [hr] at c he
    repeat (first | ((first | (with_reducible (first | refine Qa fun K E hK hE => ?_ | refine Qp c ?_))); simp -implicitDefEqProofs only [Qe, Qf, OpW, QK, aop, AS.ev, ↓reduceIte, QA, QB, Qt, aBin, aLen, goInt, ei29, un29, ti41, t0, t4, z9, hg, seval]) | (with_reducible (first | refine Qd fun K hK => ?_ | refine Qi ?_ | refine Qj ?_ | refine Qn ?_ | refine Qb ?_ | refine Qq ?_ | refine Qs ?_)) | ((with_reducible refine hK _ ?_); clear hK) | (refine Qg rfl ?_; simp only [↓reduceIte]))
    simp only [QD, Ql, Qr, upd, ↓reduceIte, QpS, QpW]
    exact Qc (QlB _) (.keep (.v _)) ⟨by rw [he]; rfl, rfl⟩
  ·have z9 : ¬ (k : Int) < l.length := by omega
   have hkl : k = l.length := by omega
   rw [hkl, List.drop_length, rargs] at he
   by_cases q : n ≤ 200
   ·have z1 : (n : Int) ≤ 200 := by omega
    repeat (first | (((with_reducible refine Qa fun K E hK hE => ?_)); simp -implicitDefEqProofs only [Qe, Qf, OpW, aop, AS.ev, ↓reduceIte, aBin, aLen, goInt, un29, t0, t3, t4, z9, z1, seval]) | (with_reducible (first | refine Qd fun K hK => ?_ | refine Qj ?_ | refine QC ?_ | refine Qb ?_ | refine Qw ?_ | refine Qy ?_)) | ((with_reducible refine hK _ ?_); clear hK) | (clear hK; (with_reducible refine hK _ ?_); clear hK) | (refine Qg rfl ?_; simp only [↓reduceIte, QpQ]))
    simp only [QD, Ql, Qr, upd, ↓reduceIte, QpS, QpW]
    exact Qc (QlB _) (.keep (.v _)) ⟨by rw [he, decide_eq_true q], rfl⟩
   ·have z1 : ¬ (n : Int) ≤ 200 := by omega
    repeat (first | (((with_reducible refine Qa fun K E hK hE => ?_)); simp -implicitDefEqProofs only [Qe, Qf, OpW, aop, AS.ev, ↓reduceIte, aBin, aLen, goInt, un29, t0, t3, t4, z9, z1, seval]) | (with_reducible (first | refine Qd fun K hK => ?_ | refine Qj ?_ | refine QC ?_ | refine Qb ?_ | refine Qw ?_ | refine Qy ?_)) | ((with_reducible refine hK _ ?_); clear hK) | (clear hK; (with_reducible refine hK _ ?_); clear hK) | (refine Qg rfl ?_; simp only [↓reduceIte, QpQ]))
    simp only [QD, Ql, Qr, upd, ↓reduceIte, QpS, QpW]
    exact Qc (QlB _) (.keep (.v _)) ⟨by rw [he, decide_eq_false q], rfl⟩
 ·rw [hI]
  exact ⟨0, 0, by omega, Nat.zero_le _, by have := Qdu l; simp only [Qp3]; omega, by rw [List.drop_zero], rfl, rfl, rfl, rfl⟩
theorem Qb2 (g : G) (hn : ndsL g.args ≤ 1000000) (ho : g.ok) : Pure Tryz.prog 19 [g.atom] (.b (rightAtomB g)) := by
 intro h
 obtain ⟨o1, o2, o3⟩ := ho
 have cr : Pure Tryz.prog 47 [.v (.string g.name)] (.b (Yv g.name)) := QbB g.name (by simp only [maxLen]; omega)
 have ca := QbO g.args hn o3
 cases hr : Yv g.name with
 | false =>
  rw [hr] at cr
  refine Qh Tryz.func19 rfl Tryz.call19 Tryz.ntmps19 (congrArg Array.toList Tryz.results19) (by simp) ?_
  repeat (first | ((first | (with_reducible (first | refine Qa fun K E hK hE => ?_ | refine Qp cr ?_))); simp -implicitDefEqProofs only [Qe, Qf, OpW, QK, aop, undef, AS.ev, Qv, AV.QoY, ↓reduceIte, Qm, QA, QB, ti9, YQ, QT, seval]) | (with_reducible refine Qj ?_) | ((with_reducible refine hK _ ?_); clear hK))
  simp only [QD, Ql, Qr, upd, ↓reduceIte, QpS, QpW]; first | refine Qc (htake _ _) (.keep (.v _)) ⟨by rw [rightAtomB, hr]; rfl, rfl⟩ | refine Qc List.take_length (.keep (.v _)) ⟨by rw [rightAtomB, hr]; rfl, rfl⟩
 | true =>
  rw [hr] at cr
  by_cases q : g.args.length ≤ 6
  ·have z : (g.args.length : Int) ≤ 6 := by omega
   refine Qh Tryz.func19 rfl Tryz.call19 Tryz.ntmps19 (congrArg Array.toList Tryz.results19) (by simp) ?_
   repeat (first | ((first | (with_reducible (first | refine Qa fun K E hK hE => ?_ | refine Qp cr ?_ | refine Qp ca ?_))); simp -implicitDefEqProofs only [Qe, Qf, OpW, QK, aop, undef, AS.ev, Qv, AV.QoY, ↓reduceIte, Qm, QA, QB, aBin, aLen, goInt, ti9, ti29, un29, YQ, YK, QT, z, seval]) | (with_reducible refine Qj ?_) | ((with_reducible refine hK _ ?_); clear hK))
   simp only [QD, Ql, Qr, upd, ↓reduceIte, QpS, QpW]; first | refine Qc (htake _ _) (.keep (.v _)) ⟨by rw [rightAtomB, hr, decide_eq_true q]; rfl, rfl⟩ | refine Qc List.take_length (.keep (.v _)) ⟨by rw [rightAtomB, hr, decide_eq_true q]; rfl, rfl⟩
  ·have z : ¬ (g.args.length : Int) ≤ 6 := by omega
   refine Qh Tryz.func19 rfl Tryz.call19 Tryz.ntmps19 (congrArg Array.toList Tryz.results19) (by simp) ?_
   repeat (first | ((first | (with_reducible (first | refine Qa fun K E hK hE => ?_ | refine Qp cr ?_))); simp -implicitDefEqProofs only [Qe, Qf, OpW, QK, aop, undef, AS.ev, Qv, AV.QoY, ↓reduceIte, Qm, QA, QB, aBin, aLen, goInt, ti9, ti29, un29, YQ, YK, QT, z, seval]) | (with_reducible refine Qj ?_) | ((with_reducible refine hK _ ?_); clear hK))
   simp only [QD, Ql, Qr, upd, ↓reduceIte, QpS, QpW]; first | refine Qc (htake _ _) (.keep (.v _)) ⟨by rw [rightAtomB, hr, decide_eq_false q]; rfl, rfl⟩ | refine Qc List.take_length (.keep (.v _)) ⟨by rw [rightAtomB, hr, decide_eq_false q]; rfl, rfl⟩
def eB : ByteArray := { data := #[] }
theorem QiV (l : List T) (most : Int) (ho : oks l) (hm : 0 ≤ most) (hm2 : most ≤ 1000000) : Pure Tryz.prog 28 [.sl 4 (avs l) none, .i most] (.b (weigh 64 l most < 0)) := by
 intro h
 have hc := Qb0 64 (Nat.le_refl _) l most ho (by omega) hm2
 refine Qh Tryz.func28 rfl Tryz.call28 Tryz.ntmps28 (congrArg Array.toList Tryz.results28) (by simp) ?_
 repeat (first | ((first | (with_reducible (first | refine Qa fun K E hK hE => ?_ | refine Qp hc ?_))); simp -implicitDefEqProofs only [Qe, Qf, OpW, QK, aop, undef, AS.ev, Qv, ↓reduceIte, aBin, seval]) | (with_reducible refine Qj ?_) | ((with_reducible refine hK _ ?_); clear hK))
 simp only [QD, Ql, Qr, upd, ↓reduceIte, QpS, QpW]; first | refine Qc (htake _ _) (.keep (.v _)) ⟨rfl, rfl⟩ | refine Qc List.take_length (.keep (.v _)) ⟨rfl, rfl⟩
theorem QbV (i : Int) : Pure Tryz.prog 16 [.i i] (T.mk 1 i eB []).av := by
 intro h
 refine Qh Tryz.func16 rfl Tryz.call16 Tryz.ntmps16 (congrArg Array.toList Tryz.results16) (by simp) ?_
 repeat (first | (((with_reducible refine Qa fun K E hK hE => ?_)); simp -implicitDefEqProofs only [Qe, Qf, OpW, aop, undef, AS.ev, Qv, AV.QoY, ↓reduceIte, QO, QH, XA, XV, ti41, zi41, sp41, seval]) | (with_reducible refine Qj ?_) | ((with_reducible refine hK _ ?_); clear hK))
 simp -implicitDefEqProofs only [Qe, ↓reduceIte, ti41, QA, QB, QD, Ql, Qr, QpW, seval]
 refine Qc (r' := (T.mk 1 i eB []).av) (htake _ _) ?_ ⟨rfl, rfl⟩
 exact .agg rfl (Xe (.keep (.v _)) (Xe (.keep (.v _)) (Xe (.keep (.v _)) (X3 (.nil 4)))))
mutual
theorem T.Qpa : ∀ t : T, t.QoZ = true → t.nds = t.size
 | .mk k i n l, h => by
  simp only [T.QoZ] at h
  simp only [T.nds, T.size]
  split at h
  ·rename_i k0
   simp only [Bool.and_eq_true, List.isEmpty_iff] at h
   rw [if_neg (by omega), h.2]; rfl
  ·split at h
   ·rename_i k0 k1
    simp only [Bool.and_eq_true, List.isEmpty_iff] at h
    rw [if_neg (by omega), h.2]; rfl
   ·split at h
    ·rename_i k2
     split at h
     ·cases h
     ·split at h
      ·cases h
      ·rw [if_pos k2, Qc8 l h]
    ·cases h
theorem Qc8 : ∀ l : List T, X4 l = true → ndsL l = sizes l
 | [], _ => rfl
 | t :: l, h => by
  simp only [X4, Bool.and_eq_true] at h
  simp only [ndsL, sizes]
  rw [T.Qpa t h.1, Qc8 l h.2]
end
theorem QkX {t : T} (h : (t.run 200 20).1 = true) : t.QoZ = true ∧ t.nds ≤ 200 ∧ (t.run 200 20).2 = 200 - t.size := by
 obtain ⟨h1, h2⟩ := T.Qo5 t 200 20
 rw [h] at h1
 have h3 := h1.symm
 simp only [Bool.and_eq_true, decide_eq_true_eq] at h3
 refine ⟨h3.1, ?_, h2 h⟩
 rw [T.Qpa t h3.1]; omega
def txtT (t : T) : ByteArray := if t.runOk = true then t.txt else { data := #[] }
theorem Qkw {h : AH} {i j p : Nat} (hi : i < h.length) (hj : j < h.length) (hij : i ≠ j) (hpi : i ≠ p) (hpj : j ≠ p) (t : T) (gp : h[p]? = some (.cells 41 4 [t.av])) (hx : t.lex)
  (hG : Xw (HB h i j true (.empty))) (u : Bool) (tx : ByteArray) (hs : tx.size + t.txt.size ≤ 140737488355328) :
  Wri 101 [.ptr i 0 0, .ptr p 0 0] h i j u tx t.txt := by
 have k1 : ∀ u tx, (HB h i j u tx)[p]? = some (.cells 41 4 [t.av]) := fun u tx => by
  rw [HB, Y1 _ _ hpi hpj, gp]
 have c1 := T.Qpl t hx i j hij h hi hj hG u tx hs
 rw [Wri] at c1
 refine Qh Tryz.func101 rfl Tryz.call101 Tryz.ntmps101 (congrArg Array.toList Tryz.results101) (by simp) ?_
 repeat (first | ((first | (with_reducible (first | refine Qk fun K E hK hE => ?_ | refine FunW.ret (FunW.call c1) ?_))); simp -implicitDefEqProofs only [Qe, Qf, OpW, QK, aop, undef, AS.ev, Qv, ↓reduceIte, QA, QB, ti41, k1, seval]) | ((with_reducible refine hK _ ?_); clear hK))
 simp -implicitDefEqProofs only [QpO, QpS, List.mapM_nil, Option.pure_def, QpO, QD, Ql, QpW]
 exact .inr ⟨rfl, rfl⟩
theorem Qkm (t : T) (h : AH) (hG : Xw h) : Xf Tryz.prog 58 [t.av] h fun o h' => o = .ret (.v (.string (txtT t))) ∧ h' = h := by
 have cr := Qa6 t
 cases hr : t.runOk with
 | false =>
  rw [hr] at cr
  have c1 := Qkg (.fn (.func 101) [] [.ptr h.length 0 0])
  refine Qh Tryz.func58 rfl Tryz.call58 Tryz.ntmps58 (congrArg Array.toList Tryz.results58) (by simp) ?_
  repeat (first | ((first | (with_reducible (first | refine Qa fun K E hK hE => ?_ | refine Qp cr ?_ | refine Qp c1 ?_))); simp -implicitDefEqProofs only [Qe, Qf, OpW, QK, aop, undef, AS.ev, Qv, AV.QoY, ↓reduceIte, QA, QB, ti41, seval]) | (with_reducible refine Qj ?_) | ((with_reducible refine hK _ ?_); clear hK))
  simp only [QD, Ql, Qr, upd, ↓reduceIte, QpS, QpW]; first | refine Qc (htake _ _) (.keep (.v _)) ⟨by rw [txtT, if_neg (by rw [hr]; decide)], rfl⟩ | refine Qc List.take_length (.keep (.v _)) ⟨by rw [txtT, if_neg (by rw [hr]; decide)], rfl⟩
 | true =>
  rw [hr] at cr
  obtain ⟨r1, r2, r3⟩ := QkX (t := t) hr
  obtain ⟨hx, hs0, hs1, hs2⟩ := T.Qpj t 200 20 hr
  have hsz := T.Qpa t r1
  have hk := Qkw (h := h ++ [AB.cells 41 4 [t.av]] ++ [AB.dead, AB.dead]) (i := (h ++ [AB.cells 41 4 [t.av]]).length) (j := (h ++ [AB.cells 41 4 [t.av]]).length + 1) (p := h.length)
   (by simp) (by simp) (by omega) (by simp) (by simp; omega) t (by simp) hx (Qig hG _) false .empty (by rw [show (ByteArray.empty).size = 0 from rfl]; omega)
  rw [Wri, ByteArray.empty_append] at hk
  have c1 := Qij (.fn (.func 101) [] [.ptr h.length 0 0]) (.tup []) t.txt (h ++ [AB.cells 41 4 [t.av]]) hs1 (by omega) (FunW.fn hk)
  refine Qh Tryz.func58 rfl Tryz.call58 Tryz.ntmps58 (congrArg Array.toList Tryz.results58) (by simp) ?_
  repeat (first | ((first | (with_reducible (first | refine Qa fun K E hK hE => ?_ | refine Qp cr ?_ | refine FunW.ret (FunW.call c1) ?_))); simp -implicitDefEqProofs only [Qe, Qf, OpW, QK, aop, undef, AS.ev, Qv, AV.QoY, ↓reduceIte, QA, QB, ti41, seval]) | (with_reducible refine Qj ?_) | ((with_reducible refine hK _ ?_); clear hK))
  simp only [QD, Ql, Qr, upd, ↓reduceIte, QpS, QpW]; first | refine Qc (htake _ _) (.keep (.v _)) ⟨by rw [txtT, if_pos hr], rfl⟩ | refine Qc List.take_length (.keep (.v _)) ⟨by rw [txtT, if_pos hr], rfl⟩
def strs (l : List ByteArray) : List AV := l.map fun x => .v (.string x)
theorem Y0 (l : List ByteArray) : (strs l).length = l.length := List.length_map _
theorem Qdj (l m : List ByteArray) : strs (l ++ m) = strs l ++ strs m := List.map_append
theorem QgC : ∀ l : List ByteArray, flat (strs l) = strs l
 | [] => rfl
 | x :: l => by rw [strs, List.map_cons, Xs]; show [AV.v (.string x)] ++ flat (strs l) = _; rw [QgC l]; rfl
def Zz (xs : List ByteArray) (sep : ByteArray) : ByteArray := ⟨(Lib.join (xs.map (·.data.toList)) sep.data.toList).toArray⟩
theorem Qg3 (xs : List ByteArray) (sep : ByteArray) (hl : (Zz xs sep).size ≤ 140737488355328) (hn : xs.length ≤ 1000000) :
  Pure Tryz.prog 60 [.sl 1 (strs xs) none, .v (.string sep)] (.v (.string (Zz xs sep))) := by
 intro h
 refine ⟨Tryz.call60, fun F n c vals hF hst hh hvals => ZU hF ?_⟩
 obtain ⟨hsz, hrel⟩ := hvals
 simp only [QpZ, Qp0] at hsz
 obtain ⟨u, v, rfl⟩ : ∃ u v, vals = #[u, v] := by
  match vals, hsz with
  | ⟨[u, v]⟩, _ => exact ⟨u, v, rfl⟩
 have h1 := hrel 0 _ _ rfl rfl
 have h2 := hrel 1 _ _ rfl rfl
 cases h2
 have fin : ∀ (e : Ending) (w' : World), (∃ s, e = .returned (.string s) ∧ s = Zz xs sep ∧ Go.RowKit.Below c.w.heap.size c.w w') → ∃ o c', (o = AOut.ret (.v (.string (Zz xs sep))) ∧ c'.h = h) ∧ Ev c c' ∧ St c' ∧ c'.w = w' ∧ EndC c' o e := by
  rintro e w' ⟨s, rfl, rfl, hb⟩
  have hg := Grows.of_below hb
  exact ⟨_, c.to w', ⟨rfl, hh⟩, Ev.grows hst hg, hst.grows hg, rfl, ⟨_, rfl, .v _⟩⟩
 have hnone : ∀ (a : Option Addr) (k : Nat), xs = [] → Calls Tryz.prog 60 #[.slice a 0 k, .string sep] c.w fun e w' => ∃ o c', (o = AOut.ret (.v (.string (Zz xs sep))) ∧ c'.h = h) ∧ Ev c c' ∧ St c' ∧ c'.w = w' ∧ EndC c' o e := by
  intro a k hx
  refine (Tryz.strings_Join_none a k sep c.w).mono ?_
  rintro e w' ⟨rfl, rfl⟩
  exact fin _ _ ⟨_, rfl, by subst hx; rfl, Go.RowKit.Below.refl _ _⟩
 cases h1' : xs with
 | nil =>
  rw [h1'] at h1 hnone
  cases h1 with
  | slnil => exact hnone _ _ rfl
  | slzero => exact hnone _ _ rfl
  | sl => exact hnone _ _ rfl
 | cons x0 xs0 =>
  rw [← h1']
  have hpos : 0 < xs.length := by rw [h1']; simp
  generalize hsx : strs xs = sx at h1
  cases h1 with
  | slnil => rw [h1'] at hsx; simp [strs] at hsx
  | slzero => rw [h1'] at hsx; simp [strs] at hsx
  | sl _ _ _ B o cap f hs hcap hmax hc hr ht =>
   subst hsx
   rw [QgC] at hc hr
   have hcell : ∀ (j : Nat) x, xs[j]? = some x → c.w.cell? ⟨B, o + j, none⟩ = some (.string x) := fun j x hx => by
    have hj : (strs xs)[j]? = some (.v (.string x)) := by rw [strs, List.getElem?_map, hx]; rfl
    have h3 := (hc j _ hj).1.1
    have h4 := hr j _ hj
    cases h4e : f j with
    | _ => rw [h4e] at h3 h4; cases h4 <;> exact h3
   have hB : B < c.w.heap.size := by
    have hj : (strs xs)[0]? = some (.v (.string x0)) := by rw [h1']; rfl
    exact (hc 0 _ hj).1.2.1
   rw [Y0] at hcap ⊢
   refine (Tryz.strings_Join B o cap xs sep c.w hcell hB (by omega) hcap (by simpa [Zz, ByteArray.size] using hl)).mono ?_
   rintro e w' ⟨rfl, hb⟩
   exact fin _ _ ⟨_, rfl, rfl, hb⟩
theorem Keep.hasG {h hx : AH} {g : Nat} {cs : Array Value} (k : Keep h hx) (H : HasG h g cs) : HasG hx g cs := by
 obtain ⟨id, ty, fr, hh⟩ := H
 exact ⟨id, ty, fr, k _ _ hh (by intros; nofun)⟩
theorem Xw.onto {h : AH} (H : Xw h) (L : AH) : Xw (h ++ L) := HasG.app H L
theorem Xw.kept {h hx : AH} (H : Xw h) (k : Keep h hx) : Xw hx := k.hasG H
def eqS : ByteArray := { data := #[32, 61, 32] }
def cmS : ByteArray := { data := #[44, 32] }
def smS : ByteArray := { data := #[59] }
def spS : ByteArray := { data := #[32] }
def flS : ByteArray := { data := #[102, 97, 105, 108, 101, 100] }
def txV (k : Nat) (t : T) : ByteArray := vOf (decN k) ++ eqS ++ txtT t
def txVs (l : List T) : List ByteArray := (List.range l.length).map fun k => txV k (l.getD k T.zero)
theorem Y5 (l : List T) : (txVs l).length = l.length := by simp [txVs]
theorem QlD {l : List T} {k : Nat} (h : k < l.length) : (txVs l).take (k + 1) = (txVs l).take k ++ [txV k l[k]] := by
 have hk : k < (txVs l).length := by rw [Y5]; exact h
 rw [List.take_succ_eq_append_getElem hk]
 simp only [txVs, List.getElem_map, List.getElem_range]
 rw [List.getD_eq_getElem?_getD, List.getElem?_eq_getElem h]; rfl
def Qbo (a : An) : ByteArray :=
 if a.failed = true then flS else if 1048576 < a.vals.length then eB else if a.vals.all T.runOk = false then eB else if a.store.all rightAtomB = false then eB else
 if 0 < a.store.length then Zz (txVs a.vals) cmS ++ smS ++ (spS ++ Zz (a.store.map txtA) cmS) else Zz (txVs a.vals) cmS ++ smS
def Qea (l : List ByteArray) : Nat := (l.map fun x => x.size + 2).sum
theorem QeE (l : List ByteArray) : (Zz l cmS).size ≤ Qea l := by
 cases l with
 | nil => exact Nat.zero_le _
 | cons x r =>
  have e : (Zz (x :: r) cmS).size = x.size + (Lib.joinTail cmS.data.toList (r.map (·.data.toList))).length := by
   show (Lib.join (x.data.toList :: r.map (·.data.toList)) _).toArray.size = _
   rw [Lib.join_cons, List.size_toArray, List.length_append, Array.length_toList]; rfl
  rw [e, Lib.joinTail_length]
  have hc : cmS.data.toList.length = 2 := rfl
  have hs : ∀ r : List ByteArray, Lib.lens (r.map (·.data.toList)) + 2 * r.length = Qea r := fun r => by
   induction r with
   | nil => rfl
   | cons y r ih =>
    simp only [Lib.lens, Qea, Qp1, List.sum_cons, QpZ] at ih ⊢
    have : y.data.toList.length = y.size := Array.length_toList
    omega
  have := hs r
  rw [hc, List.length_map]
  simp only [Qea, Qp1, List.sum_cons] at this ⊢
  omega
theorem Qg4 {l : List ByteArray} {K : Nat} (h : ∀ x ∈ l, x.size ≤ K) : Qea l ≤ l.length * (K + 2) := by
 induction l with
 | nil => exact Nat.zero_le _
 | cons x l ih =>
  have h1 := h x (by simp)
  have h2 := ih fun y hy => h y (by simp [hy])
  simp only [Qea, Qp1, List.sum_cons, QpZ] at h2 ⊢
  rw [Nat.add_mul]; omega
theorem Qha (t : T) : (txtT t).size ≤ 15000 := by
 unfold txtT
 split
 ·rename_i h
  obtain ⟨_, h1, h2, h3⟩ := T.Qpj t 200 20 h
  have := T.Qpd t 200 20 (by omega) h
  omega
 ·exact Nat.zero_le _
theorem Qll (g : G) : (txtA g).size ≤ 15000 := by
 unfold txtA
 split
 ·rename_i h; exact (QiE h).2.2.2
 ·exact Nat.zero_le _
theorem Qip {k : Nat} (hk : k ≤ 1048576) (t : T) : (vOf (decN k)).size ≤ 8 ∧ (txV k t).size ≤ 15011 := by
 have h1 := Qfq hk
 have h2 := Qha t
 have h3 : (vOf (decN k)).size ≤ 8 := by rw [vOf, QJ]; show 1 + _ ≤ 8; omega
 refine ⟨h3, ?_⟩
 rw [txV, QJ, QJ]
 show _ + 3 + _ ≤ _
 omega
theorem Qh2 (a : An) (hv : a.vals.length ≤ 1000) (hs : a.store.length ≤ 1000) (hga : ∀ g ∈ a.store, g.args.length ≤ 1000000) (h : AH) (hG : Xw h) :
  Xf Tryz.prog 23 [a.av] h fun o h' => o = .ret (.v (.string (Qbo a))) ∧ h' = h := by
 have hb1 : ¬ ((a.vals.length : Int) > 1048576) := by omega
 have hb2 : ¬ (1048576 < a.vals.length) := by omega
 cases hf : a.failed with
 | true =>
  have e : Qbo a = flS := by rw [Qbo, if_pos hf]
  refine Qh Tryz.func23 rfl Tryz.call23 Tryz.ntmps23 (congrArg Array.toList Tryz.results23) (by simp) ?_
  repeat (first | (((with_reducible refine Qa fun K E hK hE => ?_)); simp -implicitDefEqProofs only [Qe, Qf, OpW, aop, undef, AS.ev, Qv, AV.QoY, ↓reduceIte, Qm, QA, QB, ti4, Qc1, An.cells, hf, seval]) | (with_reducible (first | refine Qd fun K hK => ?_ | refine Qj ?_ | refine Qq ?_)) | ((with_reducible refine hK _ ?_); clear hK) | (refine Qg rfl ?_; simp only [↓reduceIte]))
  simp only [QD, Ql, Qr, upd, ↓reduceIte, QpS, QpW]; first | refine Qc (htake _ _) (.keep (.v _)) ⟨by rw [e]; rfl, rfl⟩ | refine Qc List.take_length (.keep (.v _)) ⟨by rw [e]; rfl, rfl⟩
 | false =>
  have hvs : ∀ x ∈ txVs a.vals, x.size ≤ 15011 := fun x hx => by
   simp only [txVs, List.mem_map, List.mem_range] at hx
   obtain ⟨k, hk, rfl⟩ := hx
   exact (Qip (by omega) _).2
  have hJ1 : (Zz (txVs a.vals) cmS).size ≤ 15013000 := by
   have h1 := QeE (txVs a.vals)
   have h2 := Qg4 hvs
   rw [Y5] at h2
   omega
  have hJ2 : (Zz (a.store.map txtA) cmS).size ≤ 15013000 := by
   have h1 := QeE (a.store.map txtA)
   have h2 := Qg4 (l := a.store.map txtA) (K := 15000) (fun x hx => by obtain ⟨g, _, rfl⟩ := List.mem_map.1 hx; exact Qll g)
   rw [List.length_map] at h2
   omega
  have wv : ∀ (l : List ByteArray) (o : Option Nat) , WkL [AV.sl 1 (strs l) o, .v (.string cmS)] [AV.sl 1 (strs l) none, .v (.string cmS)] := fun l o =>
   .cons (.sl rfl (fun y hy => by simp only [strs, List.mem_map] at hy; obtain ⟨t, _, rfl⟩ := hy; rfl) (.refl _)) (.cons (.refl _) .nil)
  have cj1 := fun o => Yi (wv _ o) (Qg3 (txVs a.vals) cmS (by omega) (by rw [Y5]; omega))
  have cj2 := fun o => Yi (wv _ o) (Qg3 (a.store.map txtA) cmS (by omega) (by rw [List.length_map]; omega))
  have hsz1 : smS.size = 1 := rfl
  have hsz2 : spS.size = 1 := rfl
  have hsz3 : eqS.size = 3 := rfl
  have ad1 := fun xo yo => ZY Tryz.prog 9 xo yo (Zz (txVs a.vals) cmS) smS (by omega)
  have ad2 := fun xo yo => ZY Tryz.prog 9 xo yo spS (Zz (a.store.map txtA) cmS) (by omega)
  have ad3 := fun xo yo => ZY Tryz.prog 9 xo yo (Zz (txVs a.vals) cmS ++ smS) (spS ++ Zz (a.store.map txtA) cmS) (by simp only [QJ]; omega)
  simp only [smS, spS, cmS] at ad1 ad2 ad3 cj1 cj2
  refine Qh Tryz.func23 rfl Tryz.call23 Tryz.ntmps23 (congrArg Array.toList Tryz.results23) (by simp) ?_
  repeat (first | (((with_reducible refine Qa fun K E hK hE => ?_)); simp -implicitDefEqProofs only [Qe, Qf, OpW, aop, undef, AS.ev, Qv, AV.QoY, ↓reduceIte, Qm, QA, QB, aBin, aLen, goInt, ti4, ti29, un29, Qc1, QbF, An.cells, hf, hb1, seval]) | (with_reducible (first | refine Qd fun K hK => ?_ | refine Qi ?_ | refine Qn ?_ | refine Qb ?_)) | ((with_reducible refine hK _ ?_); clear hK) | (refine Qg rfl ?_; simp only [↓reduceIte, QpQ]))
  refine XQ 3 9 1 rfl ?_
  refine XQ 4 9 1 rfl ?_
  have hVall : ∀ k (hk : k < a.vals.length), (a.vals[k]).runOk = false → Qbo a = eB := fun k hk hr => by
   rw [Qbo, if_neg (by rw [hf]; decide), if_neg hb2, if_pos]
   rw [Bool.eq_false_iff]
   intro hq
   rw [List.all_eq_true] at hq
   rw [hq _ (List.getElem_mem hk)] at hr
   cases hr
  obtain ⟨I, hI⟩ : ∃ I : Nat → AS → Prop, I = fun m' s => ∃ (k : Nat) (M : AH), m' = a.vals.length - k ∧ k ≤ a.vals.length ∧ (∀ t ∈ a.vals.take k, t.runOk = true) ∧ s.tm 1 = .ptr h.length 0 0 ∧ s.tm 3 = .sl 1 (strs ((txVs a.vals).take k)) (some (h.length + 1)) ∧ s.tm 4 = .sl 1 [] (some (h.length + 2)) ∧ s.tm 17 = .sl 4 (avs a.vals) none ∧ s.tm 18 = .i a.vals.length ∧ s.tm 19 = .i k ∧
    s.h = h ++ ([.cells 32 3 [a.av], .grow 9 1 k, .grow 9 1 0] ++ M) := ⟨_, rfl⟩; refine QI I ?_ (m := a.vals.length) ?_
  ·intro m' s hs; rw [hI] at hs; obtain ⟨tm, hp⟩ := s; dsimp only at hs; obtain ⟨k, M, rfl, hk, hall, t1, t3, t4, t17, t18, t19, rfl⟩ := hs
   by_cases hlt : k < a.vals.length
   ·have cr := Qa6 a.vals[k]
    obtain ⟨q1, q2⟩ := Qip (k := k) (by omega) a.vals[k]
    have q3 := Qha a.vals[k]
    have hle1 : ((txVs a.vals).take k).length = k := by rw [List.length_take, Y5]; omega
    have hm1 : k + 1 ≤ maxLen := by simp only [maxLen]; omega
    have hm2 : (k + 1) * 16 ≤ 140737488355328 := by omega
    have ad4 := fun xo yo => ZY Tryz.prog 9 xo yo (vOf (decN k)) eqS (by omega)
    have ad5 := fun xo yo => ZY Tryz.prog 9 xo yo (vOf (decN k) ++ eqS) (txtT a.vals[k]) (by simp only [QJ]; omega)
    simp only [eqS] at ad4 ad5
    cases hr : (a.vals[k]).runOk with
    | false =>
     rw [hr] at cr
     rw [hVall k hlt hr]
     repeat (first | ((first | (with_reducible (first | refine Qa fun K E hK hE => ?_ | refine Qp cr ?_))); simp -implicitDefEqProofs only [Qe, Qf, OpW, QK, aop, undef, AS.ev, AV.QoY, ↓reduceIte, QA, QB, QO, QH, Qt, aBin, ei29, ti41, zi41, t17, t18, t19, hlt, Q3 hlt, seval]) | (with_reducible (first | refine Qd fun K hK => ?_ | refine Qi ?_ | refine Qj ?_ | refine Qn ?_ | refine Qb ?_ | refine Qq ?_ | refine Qs ?_)) | ((with_reducible refine hK _ ?_); clear hK) | (refine Qg rfl ?_; simp only [↓reduceIte]))
     simp only [QD, Ql, Qr, upd, ↓reduceIte, QpS, QpW]; first | refine Qc (htake _ _) (.keep (.v _)) ⟨rfl, rfl⟩ | refine Qc List.take_length (.keep (.v _)) ⟨rfl, rfl⟩
    | true =>
     rw [hr] at cr
     repeat (first | ((first | (with_reducible (first | refine Qa fun K E hK hE => ?_ | refine Qk fun K E hK hE => ?_ | refine Qp cr ?_ | refine QcK (fun hx hk => FunW.call (Qgi k (Nat.le_trans (Nat.le_of_lt hlt) (Nat.le_trans hv (by decide))) hx ((hG.onto _).kept hk))) ?_ | refine QcK (fun hx hk => FunW.call (Qkm a.vals[k] hx ((hG.onto _).kept hk))) ?_)) | (refine QG (id := 11) [(0, 0), (1, 0), (2, 0), (3, 0), (4, 0), (5, 0), (6, 0), (7, 0), (8, 2), (9, 0)] mixed (by kernel_rfl) fun K hK => ?_)); simp -implicitDefEqProofs only [Qe, Qf, OpW, QK, aop, undef, AS.ev, AV.QoY, ↓reduceIte, QA, QB, QO, QH, Qt, aBin, QM, Xr, XS, zi9, ei29, ti41, zi41, ei92, ai92, t3, t17, t18, t19, hlt, Q3 hlt, Y0, hle1, hm1, hm2, ad4, ad5, seval]) | (with_reducible (first | refine Qd fun K hK => ?_ | refine Qi ?_ | refine Qn ?_ | refine Qb ?_ | refine Qo ?_)) | ((with_reducible refine hK _ ?_); clear hK) | (refine Qg rfl ?_; simp only [↓reduceIte, QpQ]))
     refine QV.mk (m' := a.vals.length - (k + 1)) (by omega) ?_
     rw [hI]
     refine ⟨k + 1, M ++ [.cells 41 4 [(a.vals[k]).av]], rfl, hlt, ?_, t1, ?_, t4, t17, t18, ?_, ?_⟩
     ·rw [List.take_succ_eq_append_getElem hlt]
      intro t ht
      rcases List.mem_append.1 ht with ht | ht
      ·exact hall t ht
      ·rw [List.mem_singleton] at ht; subst ht; exact hr
     ·simp only [upd, ↓reduceIte, Nat.reduceEqDiff]
      rw [QlD hlt, Qdj]; rfl
     ·simp only [upd, ↓reduceIte]
      rw [QP (by omega)]
     ·simp
   ·have hkl : k = a.vals.length := by omega
    subst hkl
    rw [List.take_length] at hall
    have hVok : ¬ a.vals.all T.runOk = false := by rw [Bool.not_eq_false, List.all_eq_true]; exact hall
    have ht3 : (txVs a.vals).take a.vals.length = txVs a.vals := List.take_of_length_le (by rw [Y5]; exact Nat.le_refl _)
    rw [ht3] at t3
    repeat (first | (((with_reducible refine Qa fun K E hK hE => ?_)); simp -implicitDefEqProofs only [Qe, Qf, OpW, aop, AS.ev, ↓reduceIte, Qm, QA, QB, aBin, aLen, goInt, ti30, un30, Zg, An.cells, t1, t18, t19, hlt, QR, seval]) | (with_reducible (first | refine Qd fun K hK => ?_ | refine Qi ?_ | refine QC ?_ | refine Qb ?_ | refine Qw ?_ | refine Qy ?_)) | ((with_reducible refine hK _ ?_); clear hK) | (clear hK; (with_reducible refine hK _ ?_); clear hK) | (refine Qg rfl ?_; simp only [↓reduceIte, QpQ]))
    obtain ⟨I, hI⟩ : ∃ I : Nat → AS → Prop, I = fun m' s => ∃ (k : Nat) (M : AH), m' = a.store.length - k ∧ k ≤ a.store.length ∧ (∀ g ∈ a.store.take k, rightAtomB g = true) ∧ s.tm 3 = .sl 1 (strs (txVs a.vals)) (some (h.length + 1)) ∧ s.tm 4 = .sl 1 (strs ((a.store.take k).map txtA)) (some (h.length + 2)) ∧ s.tm 38 = .sl 2 (vs G.atom a.store) none ∧ s.tm 39 = .i a.store.length ∧ s.tm 40 = .i k ∧
      s.h = h ++ ([.cells 32 3 [a.av], .grow 9 1 a.vals.length, .grow 9 1 k] ++ M) := ⟨_, rfl⟩; refine QI I ?_ (m := a.store.length) ?_
    ·intro m' s hs; rw [hI] at hs; obtain ⟨tm, hp⟩ := s; dsimp only at hs; obtain ⟨k, M, rfl, hk, halls, t3, t4, t38, t39, t40, rfl⟩ := hs
     by_cases hlt : k < a.store.length
     ·have cr := YG a.store[k]
      have hle1 : ((a.store.take k).map txtA).length = k := by rw [List.length_map, List.length_take]; omega
      have hm1 : k + 1 ≤ maxLen := by simp only [maxLen]; omega
      have hm2 : (k + 1) * 16 ≤ 140737488355328 := by omega
      have hgk := hga _ (List.getElem_mem hlt)
      cases hr : rightAtomB a.store[k] with
      | false =>
       rw [hr] at cr
       have e : Qbo a = eB := by
        rw [Qbo, if_neg (by rw [hf]; decide), if_neg hb2, if_neg hVok, if_pos]
        rw [Bool.eq_false_iff]
        intro hq
        rw [List.all_eq_true] at hq
        rw [hq _ (List.getElem_mem hlt)] at hr
        cases hr
       rw [e]
       repeat (first | ((first | (with_reducible (first | refine Qa fun K E hK hE => ?_ | refine Qp cr ?_))); simp -implicitDefEqProofs only [Qe, Qf, OpW, QK, aop, undef, AS.ev, AV.QoY, ↓reduceIte, QA, QB, QO, QH, Qt, aBin, ei30, ti45, zi45, t38, t39, t40, hlt, QR, XR G.atom hlt, QT, Xa, seval]) | (with_reducible (first | refine Qd fun K hK => ?_ | refine Qi ?_ | refine Qj ?_ | refine Qn ?_ | refine Qb ?_ | refine Qq ?_ | refine Qs ?_)) | ((with_reducible refine hK _ ?_); clear hK) | (refine Qg rfl ?_; simp only [↓reduceIte]))
       simp only [QD, Ql, Qr, upd, ↓reduceIte, QpS, QpW]; first | refine Qc (htake _ _) (.keep (.v _)) ⟨rfl, rfl⟩ | refine Qc List.take_length (.keep (.v _)) ⟨rfl, rfl⟩
      | true =>
       rw [hr] at cr
       repeat (first | ((first | (with_reducible (first | refine Qa fun K E hK hE => ?_ | refine Qk fun K E hK hE => ?_ | refine Qp cr ?_ | refine FunW.ret (FunW.call (Qfv a.store[k] hgk _ (hG.onto _))) ?_))); simp -implicitDefEqProofs only [Qe, Qf, OpW, QK, aop, undef, AS.ev, AV.QoY, ↓reduceIte, QA, QB, QO, QH, Qt, aBin, QM, Xr, XS, zi9, ei30, ti45, zi45, ei92, ai92, t4, t38, t39, t40, hlt, QR, XR G.atom hlt, QT, Xa, Y0, hle1, hm1, hm2, seval]) | (with_reducible (first | refine Qd fun K hK => ?_ | refine Qi ?_ | refine Qn ?_ | refine Qb ?_ | refine Qo ?_)) | ((with_reducible refine hK _ ?_); clear hK) | (refine Qg rfl ?_; simp only [↓reduceIte, QpQ]))
       refine QV.mk (m' := a.store.length - (k + 1)) (by omega) ?_
       rw [hI]
       refine ⟨k + 1, M ++ [.cells 45 2 [(a.store[k]).atom]], rfl, hlt, ?_, t3, ?_, t38, t39, ?_, ?_⟩
       ·rw [List.take_succ_eq_append_getElem hlt]
        intro t ht
        rcases List.mem_append.1 ht with ht | ht
        ·exact halls t ht
        ·rw [List.mem_singleton] at ht; subst ht; exact hr
       ·simp only [upd, ↓reduceIte, Nat.reduceEqDiff]
        rw [List.take_succ_eq_append_getElem hlt, List.map_append, Qdj]; rfl
       ·simp only [upd, ↓reduceIte]
        rw [QP (by omega)]
       ·simp
     ·have hkl : k = a.store.length := by omega
      subst hkl
      rw [List.take_length] at halls t4
      have hSok : ¬ a.store.all rightAtomB = false := by rw [Bool.not_eq_false, List.all_eq_true]; exact halls
      have e : Qbo a = if 0 < a.store.length then Zz (txVs a.vals) cmS ++ smS ++ (spS ++ Zz (a.store.map txtA) cmS) else Zz (txVs a.vals) cmS ++ smS := by
       rw [Qbo, if_neg (by rw [hf]; decide), if_neg hb2, if_neg hVok, if_neg hSok]
      by_cases hp : 0 < a.store.length
      ·have hpI : ((a.store.length : Nat) : Int) > 0 := by omega
       rw [if_pos hp] at e
       repeat (first | ((first | (with_reducible (first | refine Qa fun K E hK hE => ?_ | refine Qk fun K E hK hE => ?_ | refine Qp (cj1 _) ?_ | refine Qp (cj2 _) ?_))); simp -implicitDefEqProofs only [Qe, Qf, OpW, QK, aop, AS.ev, ↓reduceIte, aBin, aLen, goInt, un92, t3, t4, t39, t40, hlt, Y0, List.length_map, hpI, ad1, ad2, ad3, seval]) | (with_reducible (first | refine Qd fun K hK => ?_ | refine Qj ?_ | refine QC ?_ | refine Qb ?_ | refine Qw ?_ | refine Qy ?_)) | ((with_reducible refine hK _ ?_); clear hK) | (clear hK; (with_reducible refine hK _ ?_); clear hK) | (refine Qg rfl ?_; simp only [↓reduceIte, QpQ]))
       simp only [QD, Ql, Qr, upd, ↓reduceIte, QpS, QpW]; first | refine Qc (htake _ _) (.keep (.v _)) ⟨by rw [e]; rfl, rfl⟩ | refine Qc List.take_length (.keep (.v _)) ⟨by rw [e]; rfl, rfl⟩
      ·have hpI : ¬ ((a.store.length : Nat) : Int) > 0 := by omega
       rw [if_neg hp] at e
       repeat (first | ((first | (with_reducible (first | refine Qa fun K E hK hE => ?_ | refine Qp (cj1 _) ?_))); simp -implicitDefEqProofs only [Qe, Qf, OpW, QK, aop, AS.ev, ↓reduceIte, aBin, aLen, goInt, un92, t3, t4, t39, t40, hlt, Y0, List.length_map, hpI, ad1, seval]) | (with_reducible (first | refine Qd fun K hK => ?_ | refine Qj ?_ | refine Qn ?_ | refine QC ?_ | refine Qb ?_ | refine Qw ?_ | refine Qy ?_)) | ((with_reducible refine hK _ ?_); clear hK) | (clear hK; (with_reducible refine hK _ ?_); clear hK) | (refine Qg rfl ?_; simp only [↓reduceIte, QpQ]))
       simp only [QD, Ql, Qr, upd, ↓reduceIte, QpS, QpW]; first | refine Qc (htake _ _) (.keep (.v _)) ⟨by rw [e]; rfl, rfl⟩ | refine Qc List.take_length (.keep (.v _)) ⟨by rw [e]; rfl, rfl⟩
    ·rw [hI]
     exact ⟨0, M, by omega, Nat.zero_le _, by simp, t3, t4, rfl, by simp only [upd, ↓reduceIte, Nat.reduceEqDiff], rfl, rfl⟩
  ·rw [hI]
   exact ⟨0, [], by omega, Nat.zero_le _, by simp, rfl, by simp only [upd, ↓reduceIte, Nat.reduceEqDiff]; simp [strs], by simp only [upd, ↓reduceIte]; simp, rfl, by simp only [upd, ↓reduceIte, Nat.reduceEqDiff], rfl, by simp⟩
end Go.Proofs.YtniljpjjnmkoaaaGreatDoor.Ab
set_option maxRecDepth 100000
namespace Go.Proofs.YtniljpjjnmkoaaaGreatDoor.Ab
open Go.Proofs
def pS : ByteArray := { data := #[112] }
def qS : ByteArray := { data := #[113] }
def fS : ByteArray := { data := #[102] }
def itV (id : Int) (n : ByteArray) (x y : Int) : It := ⟨id, ⟨0, n, [vT x, vT y]⟩⟩
def exA1 : An := ⟨false, [], [⟨0, pS, [vT 0, vT 1]⟩, ⟨0, pS, [vT 1, vT 0]⟩]⟩
def exA2 : An := ⟨false, [.mk 2 0 fS [vT 1]], [⟨0, qS, [vT 1, vT 2]⟩]⟩
def exA3 : An := ⟨true, [], []⟩
def exB2 : List (Int × T) := [(0, .mk 2 0 fS [vT 5])]
theorem Qn4 : ofC 0 [] [itV 1 pS 7 9, itV 2 pS 9 7] false = (exA1, 0) := by kernel_rfl
theorem Qoc : ofC 1 exB2 [itV 4 qS 5 3] false = (exA2, 0) := by kernel_rfl
theorem Qou : ofC 2 [] [] true = (exA3, 0) := by kernel_rfl
theorem QnC : Y9 0 [] [itV 1 pS 7 9, itV 2 pS 9 7] = false := by kernel_rfl
theorem Qnq : Y9 1 exB2 [itV 4 qS 5 3] = false := by kernel_rfl
theorem Qny : Y9 2 [] [] = false := by kernel_rfl
def tx1 : ByteArray := { data := #[59, 32, 112, 40, 86, 48, 44, 32, 86, 49, 41, 44, 32, 112, 40, 86, 49, 44, 32, 86, 48, 41] }
def tx2 : ByteArray := { data := #[86, 48, 32, 61, 32, 102, 40, 86, 49, 41, 59, 32, 113, 40, 86, 49, 44, 32, 86, 50, 41] }
theorem Qor : Qbo exA1 = tx1 := by kernel_rfl
theorem QnN : Qbo exA2 = tx2 := by kernel_rfl
theorem QnW : Qbo exA3 = flS := by kernel_rfl
theorem Qob : Qbo An.nil = smS := by kernel_rfl
theorem QnX : ZZ exA1 exA3 = -1 := by kernel_rfl
theorem Qov : ZZ exA2 exA2 = 0 := by kernel_rfl
theorem QdK (id : Int) (n : ByteArray) (x y : Int) : Pure Tryz.prog 30 [.i id, .v (.string n), .i x, .i y] (itV id n x y).av := by
 intro h
 have c1 : Pure Tryz.prog 16 [.i x] (vT x).av := QbV x
 have c2 : Pure Tryz.prog 16 [.i y] (vT y).av := QbV y
 refine Qh Tryz.func30 rfl Tryz.call30 Tryz.ntmps30 (congrArg Array.toList Tryz.results30) (by simp) ?_
 repeat (first | ((first | (with_reducible (first | refine Qa fun K E hK hE => ?_ | refine Qk fun K E hK hE => ?_ | refine Qp c1 ?_ | refine Qz c1 ?_ | refine Qp c2 ?_ | refine Qz c2 ?_))); simp -implicitDefEqProofs only [Qe, Qf, OpW, QK, aop, undef, AS.ev, Qv, AV.QoY, ↓reduceIte, QO, QH, XA, XV, QM, ei29, zi41, zi45, sp45, ti48, zi48, sp48, seval]) | (with_reducible (first | refine Qd fun K hK => ?_ | refine Qi ?_ | refine Qj ?_ | refine Q0 ?_ | refine Q1 ?_ | refine Qn ?_ | refine QC ?_ | refine Qb ?_ | refine Qq ?_ | refine Qw ?_ | refine Qo ?_ | refine Qs ?_ | refine Qy ?_ | refine QU rfl ?_)) | (with_reducible (first | refine hK _ ?_ | (clear hK; refine hK _ ?_) | (clear hK; clear hK; refine hK _ ?_) | (clear hK; clear hK; clear hK; refine hK _ ?_)); clear hK) | (refine Qg rfl ?_; simp only [↓reduceIte, QpQ]) | (intro (b : Bool); cases b))
 simp -implicitDefEqProofs only [Qe, ↓reduceIte, QA, QB, ti48, QA, QB, QD, Ql, Qr, QpW, seval]
 refine Qc (r' := (itV id n x y).av) (htake _ _) ?_ ⟨rfl, rfl⟩
 refine .keep (.agg _ fun a ha => ?_)
 simp only [List.mem_cons, List.not_mem_nil, or_false] at ha
 rcases ha with rfl | rfl | rfl
 ·exact .v _
 ·exact .v _
 ·exact X0 _ [vT x, vT y]
theorem Qne (s : ByteArray) (t : T) : Pure Tryz.prog 31 [.v (.string s), .sl 4 [t.av] none] (T.mk 2 0 s [t]).av := by
 intro h
 have h1 : 1 ≤ maxLen := by simp only [maxLen]; omega
 refine Qh Tryz.func31 rfl Tryz.call31 Tryz.ntmps31 (congrArg Array.toList Tryz.results31) (by simp) ?_
 repeat (first | ((first | (with_reducible (first | refine Qa fun K E hK hE => ?_ | refine Qk fun K E hK hE => ?_ | refine Qm3 ?_))); simp -implicitDefEqProofs only [Qe, Qf, OpW, aop, undef, AS.ev, Qv, AV.QoY, ↓reduceIte, QO, QH, XA, XV, QM, Xr, XS, ei29, ai29, ti41, zi41, sp41, h1, seval]) | (with_reducible (first | refine Qd fun K hK => ?_ | refine Qi ?_ | refine Qj ?_ | refine Q0 ?_ | refine Q1 ?_ | refine Qn ?_ | refine QC ?_ | refine Qb ?_ | refine Qq ?_ | refine Qw ?_ | refine Qo ?_ | refine Qs ?_ | refine Qy ?_ | refine QU rfl ?_)) | (with_reducible (first | refine hK _ ?_ | (clear hK; refine hK _ ?_) | (clear hK; clear hK; refine hK _ ?_) | (clear hK; clear hK; clear hK; refine hK _ ?_)); clear hK) | (refine Qg rfl ?_; simp only [↓reduceIte, QpQ]) | (intro (b : Bool); cases b))
 simp -implicitDefEqProofs only [Qe, ↓reduceIte, QA, QB, ti41, QA, QB, QD, Ql, Qr, QpW, seval]
 refine Qc (r' := (T.mk 2 0 s [t]).av) (htake _ _) ?_ ⟨rfl, rfl⟩
 exact .agg rfl (Xe (.keep (.v _)) (Xe (.keep (.v _)) (Xe (.keep (.v _)) (X3 (.tok (YE _ [t]))))))
theorem okV (x : Int) (h : i64 x) : (vT x).ok := ⟨by unfold i64; omega, h, by decide, trivial⟩
set_option maxRecDepth 4000
theorem Qoq : SmallC [] [itV 1 pS 7 9, itV 2 pS 9 7] := ⟨by decide, by simp, by simp, by decide, by decide, by
 intro x hx
 simp only [List.mem_cons, List.not_mem_nil, or_false] at hx
 rcases hx with rfl | rfl
 ·exact ⟨okV 7 (by unfold i64; omega), okV 9 (by unfold i64; omega), trivial⟩
 ·exact ⟨okV 9 (by unfold i64; omega), okV 7 (by unfold i64; omega), trivial⟩⟩
theorem QnT : SmallC exB2 [itV 4 qS 5 3] := ⟨by decide, by decide, by
  intro x hx
  simp only [exB2, List.mem_singleton] at hx
  subst hx
  exact ⟨by unfold i64; omega, by unfold i64; omega, by unfold i64; omega, by decide, okV 5 (by unfold i64; omega), trivial⟩, by decide, by decide, by
 intro x hx
 simp only [List.mem_singleton] at hx
 subst hx
 exact ⟨okV 5 (by unfold i64; omega), okV 3 (by unfold i64; omega), trivial⟩⟩
theorem Qot : SmallC [] [] := ⟨by decide, by simp, by simp, by decide, by simp, by simp⟩
theorem QoV : Pure Tryz.prog 11 [.i 0, .v (.slice none 0 0), .sl 3 [(itV 1 pS 7 9).av, (itV 2 pS 9 7).av] none, .v (.bool false)] (.tup [exA1.av, .i 0]) := by
 have := QhL 0 [] [itV 1 pS 7 9, itV 2 pS 9 7] Qoq QnC
 rw [Qn4] at this
 exact Yi (.cons (.refl _) (.cons (.nilS 5) (.cons (.refl _) (.cons (.refl _) .nil)))) this
theorem QoN : Pure Tryz.prog 11 [.i 1, .sl 5 [bav (0, .mk 2 0 fS [vT 5])] none, .sl 3 [(itV 4 qS 5 3).av] none, .v (.bool false)] (.tup [exA2.av, .i 0]) := by
 have := QhL 1 exB2 [itV 4 qS 5 3] QnT Qnq
 rw [Qoc] at this
 exact this
theorem QoR : Pure Tryz.prog 11 [.i 2, .v (.slice none 0 0), .v (.slice none 0 0), .v (.bool true)] (.tup [exA3.av, .i 0]) := by
 have := QgH 2 [] [] Qot Qny
 rw [Qou] at this
 exact Yi (.cons (.refl _) (.cons (.nilS 5) (.cons (.nilS 3) (.cons (.refl _) .nil)))) this
theorem ex_t (a : An) (s : ByteArray) (e : Qbo a = s) (hv : a.vals.length ≤ 1000) (hs : a.store.length ≤ 1000) (hga : ∀ g ∈ a.store, g.args.length ≤ 1000000) (h : AH) (hG : Xw h) : Xf Tryz.prog 23 [a.av] h fun o h' => o = .ret (.v (.string s)) ∧ h' = h := by
 have := Qh2 a hv hs hga h hG
 rwa [e] at this
theorem Qcq (h : AH) (hG : Xw h) : Xf Tryz.prog 10 [] h fun o h' => o = .ret (.b true) ∧ h' = h := by
 have q1 := QdK 1 pS 7 9
 have q2 := QdK 2 pS 9 7
 have q3 := QdK 4 qS 5 3
 have v5 : Pure Tryz.prog 16 [.i 5] (vT 5).av := QbV 5
 have cf := Qne fS (vT 5)
 have c1 := QoV
 have c2 := QoN
 have c3 := QoR
 have t1 := fun L => ex_t exA1 tx1 Qor (by decide) (by decide) (by decide) (h ++ L) (hG.onto L)
 have t2 := fun L => ex_t exA2 tx2 QnN (by decide) (by decide) (by decide) (h ++ L) (hG.onto L)
 have t3 := fun L => ex_t exA3 flS QnW (by decide) (by decide) (by decide) (h ++ L) (hG.onto L)
 have t4 : ∀ L, Xf Tryz.prog 23 [.agg [.v (.bool false), .v (.slice none 0 0), .v (.slice none 0 0)]] (h ++ L) fun o h' => o = .ret (.v (.string smS)) ∧ h' = h ++ L := fun L =>
  Qaq (.cons (.agg (.cons (.refl _) (.cons (.nilS 4) (.cons (.nilS 2) .nil)))) .nil) (ex_t An.nil smS Qob (by decide) (by decide) (by decide) (h ++ L) (hG.onto L))
 have k1 := YZ exA1 exA3 (by decide) (by decide)
 rw [QnX] at k1
 have k2 := YZ exA2 exA2 (by decide) (by decide)
 rw [Qov] at k2
 simp only [pS, qS, fS, tx1, tx2, flS, smS] at q1 q2 q3 cf c1 t1 t2 t3 t4
 simp only [bav, qS, fS] at c2
 refine Qh Tryz.func10 rfl Tryz.call10 Tryz.ntmps10 (congrArg Array.toList Tryz.results10) (by simp) ?_
 iterate 16 (try (first | ((first | (with_reducible (first | refine Qa fun K E hK hE => ?_ | refine Qp q1 ?_ | refine Qp q2 ?_ | refine Qp q3 ?_ | refine Qp v5 ?_ | refine Qp cf ?_ | refine Qp c1 ?_ | refine Qp c2 ?_ | refine Qp c3 ?_))); simp -implicitDefEqProofs only [Qe, Qf, OpW, QK, aop, undef, AS.ev, Qv, AV.QoY, ↓reduceIte, QO, QH, Xo, XA, XV, QM, ei23, ei24, ei29, ti32, zi32, zi41, zi48, zi52, sp52, It.cells, An.cells, An.isAgg, seval]) | ((with_reducible refine hK _ ?_); clear hK)))
 clear q1 q2 q3 v5 cf c1 c2 c3
 have z0 : ((0 : Int) == 0) = true := by decide
 have z1 : ((-1 : Int) == -1) = true := by decide
 (with_reducible refine Qa fun K E hK hE => ?_)
 (try simp only [Qqn]); refine QE 5 (fun K1 hK1 => ?_); simp -implicitDefEqProofs only [Qe, Qf, OpW, aop, AS.ev, ↓reduceIte, QA, QB, aBin, ti32, An.cells, An.isAgg, seval]; (repeat ((((with_reducible refine FunW.ret (FunW.call (t1 _)) ?_)); simp -implicitDefEqProofs only [Q4, QK, Q6, Nat.reduceLT]))); refine hK1 _ ?_; clear hK1
 (try simp only [QpV, Qp3]); refine QE 6 (fun K1 hK1 => ?_); simp -implicitDefEqProofs only [Qe, Qf, OpW, aop, AS.ev, ↓reduceIte, aBin, seval]; refine hK1 _ ?_; clear hK1
 (try simp only [QpV, Qp3]); refine QE 3 (fun K1 hK1 => ?_); simp -implicitDefEqProofs only [Qe, Qf, OpW, aop, AS.ev, ↓reduceIte, QA, QB, ti32, An.cells, An.isAgg, seval]; (repeat ((((with_reducible refine FunW.ret (FunW.call (t2 _)) ?_)); simp -implicitDefEqProofs only [Q4, QK, Q6, Nat.reduceLT]))); refine hK1 _ ?_; clear hK1
 (try simp only [QpV, Qp3]); refine QE 6 (fun K1 hK1 => ?_); simp -implicitDefEqProofs only [Qe, Qf, OpW, aop, AS.ev, ↓reduceIte, aBin, seval]; refine hK1 _ ?_; clear hK1
 (try simp only [QpV, Qp3]); refine QE 3 (fun K1 hK1 => ?_); simp -implicitDefEqProofs only [Qe, Qf, OpW, aop, AS.ev, ↓reduceIte, QA, QB, ti32, An.cells, An.isAgg, seval]; (repeat ((((with_reducible refine FunW.ret (FunW.call (t3 _)) ?_)); simp -implicitDefEqProofs only [Q4, QK, Q6, Nat.reduceLT]))); refine hK1 _ ?_; clear hK1
 (try simp only [QpV, Qp3]); refine QE 5 (fun K1 hK1 => ?_); simp -implicitDefEqProofs only [Qe, Qf, OpW, aop, AS.ev, ↓reduceIte, QA, QB, aBin, ti32, An.cells, An.isAgg, seval]; refine hK1 _ ?_; clear hK1
 (try simp only [QpV, Qp3]); refine QE 3 (fun K1 hK1 => ?_); simp -implicitDefEqProofs only [Qe, Qf, OpW, AS.ev, ↓reduceIte, Nat.reduceEqDiff]; (repeat ((((with_reducible refine Qp k1 ?_)); simp -implicitDefEqProofs only [Qe, Qf, OpW, QK, aop, AS.ev, ↓reduceIte, aBin, seval]))); refine hK1 _ ?_; clear hK1
 (try simp only [QpV, Qp3]); refine QE 3 (fun K1 hK1 => ?_); simp -implicitDefEqProofs only [Qe, Qf, OpW, aop, AS.ev, ↓reduceIte, QA, QB, ti32, An.cells, An.isAgg, seval]; refine hK1 _ ?_; clear hK1
 (try simp only [QpV, Qp3]); refine QE 3 (fun K1 hK1 => ?_); simp -implicitDefEqProofs only [Qe, Qf, OpW, AS.ev, ↓reduceIte, Nat.reduceEqDiff]; (repeat ((((with_reducible refine Qp k2 ?_)); simp -implicitDefEqProofs only [Qe, Qf, OpW, QK, aop, AS.ev, ↓reduceIte, aBin, seval]))); refine hK1 _ ?_; clear hK1
 (try simp only [QpV, Qp3]); refine QE 2 (fun K1 hK1 => ?_); simp -implicitDefEqProofs only [Qe, Qf, OpW, aop, undef, AS.ev, Qv, AV.QoY, ↓reduceIte, Nat.reduceLT, XA, XV, zi32, sp32]; refine hK1 _ ?_; clear hK1
 (try simp only [QpV, Qp3])
 simp -implicitDefEqProofs only [Qe, Qf, OpW, AS.ev, ↓reduceIte, Nat.reduceEqDiff]
 repeat (first | (((with_reducible refine FunW.ret (FunW.call (t4 _)) ?_)); simp -implicitDefEqProofs only [Qe, Qf, OpW, QK, aop, AS.ev, ↓reduceIte, aBin, seval]) | (with_reducible refine Qj ?_) | ((with_reducible refine hK _ ?_); clear hK))
 simp only [QD, Ql, Qr, upd, ↓reduceIte, QpS, QpW]
 exact Qc (htake _ _) (.keep (.v _)) ⟨rfl, rfl⟩
theorem Qcu (a b : Int) : Pure Tryz.prog 54 [.i a, .i b] (.i (cmpI a b)) := by
 intro h
 by_cases h1 : a < b
 ·have e : cmpI a b = -1 := by rw [cmpI, if_pos h1]
  rw [e]
  refine Qh Tryz.func54 rfl Tryz.call54 Tryz.ntmps54 (congrArg Array.toList Tryz.results54) (by simp) ?_
  repeat (first | (((with_reducible refine Qa fun K E hK hE => ?_)); simp -implicitDefEqProofs only [Qe, Qf, OpW, aop, undef, AS.ev, Qv, ↓reduceIte, aBin, h1, seval]) | (with_reducible (first | refine Qd fun K hK => ?_ | refine Qi ?_ | refine Qj ?_ | refine Qq ?_ | refine Qs ?_)) | ((with_reducible refine hK _ ?_); clear hK) | (refine Qg rfl ?_; simp only [↓reduceIte]))
  simp only [QD, Ql, Qr, upd, ↓reduceIte, QpS, QpW]; first | refine Qc (htake _ _) (.keep (.v _)) ⟨rfl, rfl⟩ | refine Qc List.take_length (.keep (.v _)) ⟨rfl, rfl⟩
 ·by_cases h2 : a > b
  ·have e : cmpI a b = 1 := by rw [cmpI, if_neg h1, if_pos h2]
   rw [e]
   refine Qh Tryz.func54 rfl Tryz.call54 Tryz.ntmps54 (congrArg Array.toList Tryz.results54) (by simp) ?_
   repeat (first | (((with_reducible refine Qa fun K E hK hE => ?_)); simp -implicitDefEqProofs only [Qe, Qf, OpW, aop, undef, AS.ev, Qv, ↓reduceIte, aBin, h1, h2, seval]) | (with_reducible (first | refine Qd fun K hK => ?_ | refine Qi ?_ | refine Qj ?_ | refine Qq ?_ | refine Qs ?_)) | ((with_reducible refine hK _ ?_); clear hK) | (refine Qg rfl ?_; simp only [↓reduceIte, QpQ]))
   simp only [QD, Ql, Qr, upd, ↓reduceIte, QpS, QpW]; first | refine Qc (htake _ _) (.keep (.v _)) ⟨rfl, rfl⟩ | refine Qc List.take_length (.keep (.v _)) ⟨rfl, rfl⟩
  ·have e : cmpI a b = 0 := by rw [cmpI, if_neg h1, if_neg h2]
   rw [e]
   refine Qh Tryz.func54 rfl Tryz.call54 Tryz.ntmps54 (congrArg Array.toList Tryz.results54) (by simp) ?_
   repeat (first | (((with_reducible refine Qa fun K E hK hE => ?_)); simp -implicitDefEqProofs only [Qe, Qf, OpW, aop, undef, AS.ev, Qv, ↓reduceIte, aBin, h1, h2, seval]) | (with_reducible (first | refine Qd fun K hK => ?_ | refine Qi ?_ | refine Qj ?_ | refine Qn ?_ | refine Qb ?_ | refine Qo ?_)) | ((with_reducible refine hK _ ?_); clear hK) | (refine Qg rfl ?_; simp only [↓reduceIte, QpQ]))
   simp only [QD, Ql, Qr, upd, ↓reduceIte, QpS, QpW]; first | refine Qc (htake _ _) (.keep (.v _)) ⟨rfl, rfl⟩ | refine Qc List.take_length (.keep (.v _)) ⟨rfl, rfl⟩
theorem QkL {l m : List T} {k : Nat} (h1 : k ≤ l.length) (h2 : k ≤ m.length) (h : ¬ (k < l.length ∧ k < m.length)) : cmpL (l.drop k) (m.drop k) = cmpI l.length m.length := by
 by_cases hl : k < l.length
 ·have hm : k = m.length := by omega
  rw [hm, List.drop_length, List.drop_eq_getElem_cons (by omega), cmpL, cmpI, if_neg (by omega), if_pos (by omega)]
 ·have hkl : k = l.length := by omega
  rw [hkl, List.drop_length]
  by_cases hm : l.length < m.length
  ·rw [List.drop_eq_getElem_cons hm, cmpL, cmpI, if_pos (by omega)]
  ·have : l.length = m.length := by omega
   rw [this, List.drop_length, cmpL, cmpI, if_neg (by omega), if_neg (by omega)]
theorem Qen {l m : List G} {k : Nat} (h1 : k ≤ l.length) (h2 : k ≤ m.length) (h : ¬ (k < l.length ∧ k < m.length)) : XF (l.drop k) (m.drop k) = cmpI l.length m.length := by
 by_cases hl : k < l.length
 ·have hm : k = m.length := by omega
  rw [hm, List.drop_length, List.drop_eq_getElem_cons (by omega), XF, cmpI, if_neg (by omega), if_pos (by omega)]
 ·have hkl : k = l.length := by omega
  rw [hkl, List.drop_length]
  by_cases hm : l.length < m.length
  ·rw [List.drop_eq_getElem_cons hm, XF, cmpI, if_pos (by omega)]
  ·have : l.length = m.length := by omega
   rw [this, List.drop_length, XF, cmpI, if_neg (by omega), if_neg (by omega)]
theorem Qaf (f : Bool) (v v' : List T) (l l' : List G) (hv : ndsL v ≤ 1000000) (hs : gsN l ≤ 1000000) : Pure Tryz.prog 22 [(An.mk f v l).av, (An.mk f v' l').av] (.i (lexI (cmpL v v') (XF l l'))) := by
 intro h
 have hll := QW v
 have hgl := Zr l
 have hbn : ∀ xo yo, pv Tryz.prog (do eqGuard .neq 4 xo yo (.bool f) (.bool f); binOp .neq 4 (.bool f) (.bool f)) = some (.bool false) := by intro xo yo; cases f <;> rfl
 have cl1 := Qcu v.length v'.length
 have cl2 := Qcu l.length l'.length
 refine Qh Tryz.func22 rfl Tryz.call22 Tryz.ntmps22 (congrArg Array.toList Tryz.results22) (by simp) ?_
 repeat (first | (((with_reducible refine Qa fun K E hK hE => ?_)); simp -implicitDefEqProofs only [Qe, Qf, OpW, aop, undef, AS.ev, Qv, AV.QoY, ↓reduceIte, Qm, QA, QB, aBin, ti4, Qc1, An.cells, hbn, seval]) | (with_reducible (first | refine Qd fun K hK => ?_ | refine Qi ?_ | refine Qn ?_ | refine Qb ?_)) | ((with_reducible refine hK _ ?_); clear hK) | (refine Qg rfl ?_; simp only [↓reduceIte, QpQ]))
 obtain ⟨I, hI⟩ : ∃ I : Nat → AS → Prop, I = fun m' s => ∃ (k : Nat), m' = v.length - k ∧ k ≤ v.length ∧ k ≤ v'.length ∧ cmpL v v' = cmpL (v.drop k) (v'.drop k) ∧ s.tm 2 = .ptr h.length 0 0 ∧ s.tm 3 = .ptr (h.length + 1) 0 0 ∧ s.tm 5 = .i k ∧ s.h = h ++ [.cells 32 3 [(An.mk f v l).av], .cells 32 3 [(An.mk f v' l').av]] := ⟨_, rfl⟩; refine QI I ?_ (m := v.length) ?_
 ·intro m' s hs; rw [hI] at hs; obtain ⟨tm, hp⟩ := s; dsimp only at hs; obtain ⟨k, rfl, hk, hk2, hor, t2, t3, t5, rfl⟩ := hs
  by_cases hlt : k < v.length ∧ k < v'.length
  ·obtain ⟨hlt1, hlt2⟩ := hlt
   have hd := QbD hlt1 hlt2
   have hc := Yr 1000000 (Nat.le_refl _) v[k] v'[k] (Nat.le_trans (XM hlt1) hv)
   cases ha : (cmpT v[k] v'[k] != 0) with
   | true =>
    rw [if_pos ha] at hd
    have e : lexI (cmpL v v') (XF l l') = cmpT v[k] v'[k] := by rw [hor, hd, lexI, if_pos ha]
    repeat (first | ((first | (with_reducible (first | refine Qa fun K E hK hE => ?_ | refine Qz hc ?_)) | (refine Qu (id := 8) [(0, 0), (1, 0), (2, 0), (3, 0), (4, 0), (5, 0), (6, 0), (7, 0), (8, 0), (9, 0), (10, 1), (11, 0)] mixed (by kernel_rfl) fun K hK => ?_)); simp -implicitDefEqProofs only [Qe, Qf, OpW, aop, AS.ev, ↓reduceIte, Qm, QA, QB, Qt, aBin, aLen, goInt, ti29, ei29, un29, QbF, ti41, An.cells, t2, t3, t5, hlt1, hlt2, Q3 hlt1, Q3 hlt2, ha, seval]) | (with_reducible (first | refine Qd fun K hK => ?_ | refine Qi ?_ | refine Qj ?_ | refine Qn ?_ | refine Qb ?_ | refine Qq ?_ | refine Qs ?_)) | ((with_reducible refine hK _ ?_); clear hK) | (refine Qg rfl ?_; simp only [↓reduceIte]))
    simp only [QD, Ql, Qr, upd, ↓reduceIte, QpS, QpW]; first | refine Qc (htake _ _) (.keep (.v _)) ⟨by rw [e], rfl⟩ | refine Qc List.take_length (.keep (.v _)) ⟨by rw [e], rfl⟩
   | false =>
    repeat (first | ((first | (with_reducible (first | refine Qa fun K E hK hE => ?_ | refine Qk fun K E hK hE => ?_ | refine Qz hc ?_)) | (refine Qu (id := 8) [(0, 0), (1, 0), (2, 0), (3, 0), (4, 0), (5, 0), (6, 0), (7, 0), (8, 0), (9, 0), (10, 1), (11, 0)] mixed (by kernel_rfl) fun K hK => ?_)); simp -implicitDefEqProofs only [Qe, Qf, OpW, aop, AS.ev, ↓reduceIte, Qm, QA, QB, Qt, aBin, aLen, goInt, ti29, ei29, un29, QbF, ti41, An.cells, t2, t3, t5, hlt1, hlt2, Q3 hlt1, Q3 hlt2, ha, seval]) | (with_reducible (first | refine Qd fun K hK => ?_ | refine Qi ?_ | refine Qn ?_ | refine Qb ?_ | refine Qo ?_)) | ((with_reducible refine hK _ ?_); clear hK) | (refine Qg rfl ?_; simp only [↓reduceIte, QpQ]))
    refine QV.mk (m' := v.length - (k + 1)) (by omega) ?_
    rw [hI]
    refine ⟨k + 1, rfl, hlt1, hlt2, ?_, t2, t3, ?_, rfl⟩
    ·rw [hor, hd, ha]; rfl
    ·simp only [upd, ↓reduceIte]
     rw [QP (by omega)]
  ·have hz := QkL hk hk2 hlt
   rw [← hor] at hz
   by_cases hl1 : k < v.length
   ·have hl2 : ¬ k < v'.length := fun q => hlt ⟨hl1, q⟩
    cases hq : (cmpI v.length v'.length != 0) with
    | true =>
     have e : lexI (cmpL v v') (XF l l') = cmpI v.length v'.length := by rw [hz, lexI, if_pos hq]
     repeat (first | ((first | (with_reducible (first | refine Qa fun K E hK hE => ?_ | refine Qp cl1 ?_))); simp -implicitDefEqProofs only [Qe, Qf, OpW, QK, aop, AS.ev, ↓reduceIte, Qm, QA, QB, aBin, aLen, goInt, ti29, un29, QbF, An.cells, t2, t3, t5, hl1, hl2, hq, seval]) | (with_reducible (first | refine Qd fun K hK => ?_ | refine Qj ?_ | refine QC ?_ | refine Qb ?_ | refine Qq ?_ | refine Qw ?_ | refine Qy ?_)) | ((with_reducible refine hK _ ?_); clear hK) | (clear hK; (with_reducible refine hK _ ?_); clear hK) | (refine Qg rfl ?_; simp only [↓reduceIte, QpQ]))
     simp only [QD, Ql, Qr, upd, ↓reduceIte, QpS, QpW]; first | refine Qc (htake _ _) (.keep (.v _)) ⟨by rw [e], rfl⟩ | refine Qc List.take_length (.keep (.v _)) ⟨by rw [e], rfl⟩
    | false =>
     have e0 : lexI (cmpL v v') (XF l l') = XF l l' := by rw [hz, lexI, hq]; rfl
     repeat (first | ((first | (with_reducible (first | refine Qa fun K E hK hE => ?_ | refine Qp cl1 ?_))); simp -implicitDefEqProofs only [Qe, Qf, OpW, QK, aop, AS.ev, ↓reduceIte, Qm, QA, QB, aBin, aLen, goInt, ti29, un29, QbF, An.cells, t2, t3, t5, hl1, hl2, hq, seval]) | (with_reducible (first | refine Qd fun K hK => ?_ | refine Qi ?_ | refine Qn ?_ | refine QC ?_ | refine Qb ?_ | refine Qw ?_ | refine Qy ?_)) | ((with_reducible refine hK _ ?_); clear hK) | (clear hK; (with_reducible refine hK _ ?_); clear hK) | (refine Qg rfl ?_; simp only [↓reduceIte, QpQ]))
     obtain ⟨I, hI⟩ : ∃ I : Nat → AS → Prop, I = fun m' s => ∃ (k : Nat), m' = l.length - k ∧ k ≤ l.length ∧ k ≤ l'.length ∧ XF l l' = XF (l.drop k) (l'.drop k) ∧ s.tm 2 = .ptr h.length 0 0 ∧ s.tm 3 = .ptr (h.length + 1) 0 0 ∧ s.tm 8 = .i k ∧ s.h = h ++ [.cells 32 3 [(An.mk f v l).av], .cells 32 3 [(An.mk f v' l').av]] := ⟨_, rfl⟩; refine QI I ?_ (m := l.length) ?_
     ·intro m' s hs; rw [hI] at hs; obtain ⟨tm, hp⟩ := s; dsimp only at hs; obtain ⟨k, rfl, hk, hk2, hor, t2, t3, t8, rfl⟩ := hs
      by_cases hlt : k < l.length ∧ k < l'.length
      ·obtain ⟨hlt1, hlt2⟩ := hlt
       have hd := Qb4 hlt1 hlt2
       have hc := Y3 l[k] l'[k] (Nat.le_trans (Qa3 hlt1) hs)
       cases ha : (cmpG l[k] l'[k] != 0) with
       | true =>
        rw [if_pos ha] at hd
        have e : lexI (cmpL v v') (XF l l') = cmpG l[k] l'[k] := by rw [e0, hor, hd]
        repeat (first | ((first | (with_reducible (first | refine Qa fun K E hK hE => ?_ | refine Qz hc ?_)) | (refine Qu (id := 17) [(0, 0), (1, 0), (2, 0), (3, 0), (4, 0), (5, 0), (6, 0), (7, 0), (8, 0), (9, 0), (10, 1), (11, 0)] mixed (by kernel_rfl) fun K hK => ?_)); simp -implicitDefEqProofs only [Qe, Qf, OpW, aop, AS.ev, ↓reduceIte, Qm, QA, QB, Qt, aBin, aLen, goInt, ti30, ei30, un30, Zg, ti45, An.cells, t2, t3, t8, hlt1, hlt2, QR, XR G.atom hlt1, XR G.atom hlt2, QT, Xa, ha, seval]) | (with_reducible (first | refine Qd fun K hK => ?_ | refine Qi ?_ | refine Qj ?_ | refine Qn ?_ | refine Qb ?_ | refine Qq ?_ | refine Qs ?_)) | ((with_reducible refine hK _ ?_); clear hK) | (refine Qg rfl ?_; simp only [↓reduceIte]))
        simp only [QD, Ql, Qr, upd, ↓reduceIte, QpS, QpW]; first | refine Qc (htake _ _) (.keep (.v _)) ⟨by rw [e], rfl⟩ | refine Qc List.take_length (.keep (.v _)) ⟨by rw [e], rfl⟩
       | false =>
        repeat (first | ((first | (with_reducible (first | refine Qa fun K E hK hE => ?_ | refine Qk fun K E hK hE => ?_ | refine Qz hc ?_)) | (refine Qu (id := 17) [(0, 0), (1, 0), (2, 0), (3, 0), (4, 0), (5, 0), (6, 0), (7, 0), (8, 0), (9, 0), (10, 1), (11, 0)] mixed (by kernel_rfl) fun K hK => ?_)); simp -implicitDefEqProofs only [Qe, Qf, OpW, aop, AS.ev, ↓reduceIte, Qm, QA, QB, Qt, aBin, aLen, goInt, ti30, ei30, un30, Zg, ti45, An.cells, t2, t3, t8, hlt1, hlt2, QR, XR G.atom hlt1, XR G.atom hlt2, QT, Xa, ha, seval]) | (with_reducible (first | refine Qd fun K hK => ?_ | refine Qi ?_ | refine Qn ?_ | refine Qb ?_ | refine Qo ?_)) | ((with_reducible refine hK _ ?_); clear hK) | (refine Qg rfl ?_; simp only [↓reduceIte, QpQ]))
        refine QV.mk (m' := l.length - (k + 1)) (by omega) ?_
        rw [hI]
        refine ⟨k + 1, rfl, hlt1, hlt2, ?_, t2, t3, ?_, rfl⟩
        ·rw [hor, hd, ha]; rfl
        ·simp only [upd, ↓reduceIte]
         rw [QP (by omega)]
      ·have hz2 := Qen hk hk2 hlt
       rw [← hor] at hz2
       by_cases hl1 : k < l.length
       ·have hl2 : ¬ k < l'.length := fun q => hlt ⟨hl1, q⟩
        repeat (first | ((first | (with_reducible (first | refine Qa fun K E hK hE => ?_ | refine Qp cl2 ?_))); simp -implicitDefEqProofs only [Qe, Qf, OpW, QK, aop, AS.ev, ↓reduceIte, Qm, QA, QB, aBin, aLen, goInt, ti30, un30, Zg, An.cells, t2, t3, t8, QR, hl1, hl2, seval]) | (with_reducible (first | refine Qd fun K hK => ?_ | refine Qj ?_ | refine QC ?_ | refine Qb ?_ | refine Qw ?_ | refine Qy ?_)) | ((with_reducible refine hK _ ?_); clear hK) | (clear hK; (with_reducible refine hK _ ?_); clear hK) | (refine Qg rfl ?_; simp only [↓reduceIte, QpQ]))
        simp only [QD, Ql, Qr, upd, ↓reduceIte, QpS, QpW]; first | refine Qc (htake _ _) (.keep (.v _)) ⟨by rw [e0, hz2], rfl⟩ | refine Qc List.take_length (.keep (.v _)) ⟨by rw [e0, hz2], rfl⟩
       ·repeat (first | ((first | (with_reducible (first | refine Qa fun K E hK hE => ?_ | refine Qp cl2 ?_))); simp -implicitDefEqProofs only [Qe, Qf, OpW, QK, aop, undef, AS.ev, ↓reduceIte, Qm, QA, QB, aBin, aLen, goInt, ti30, un30, Zg, An.cells, t2, t3, t8, QR, hl1, seval]) | (with_reducible (first | refine Qd fun K hK => ?_ | refine Qj ?_ | refine QC ?_ | refine Qb ?_ | refine Qw ?_ | refine Qy ?_)) | ((with_reducible refine hK _ ?_); clear hK) | (clear hK; (with_reducible refine hK _ ?_); clear hK) | (refine Qg rfl ?_; simp only [↓reduceIte, QpQ]))
        simp only [QD, Ql, Qr, upd, ↓reduceIte, QpS, QpW]; first | refine Qc (htake _ _) (.keep (.v _)) ⟨by rw [e0, hz2], rfl⟩ | refine Qc List.take_length (.keep (.v _)) ⟨by rw [e0, hz2], rfl⟩
     ·rw [hI]
      exact ⟨0, by omega, Nat.zero_le _, Nat.zero_le _, rfl, t2, t3, rfl, rfl⟩
   ·cases hq : (cmpI v.length v'.length != 0) with
    | true =>
     have e : lexI (cmpL v v') (XF l l') = cmpI v.length v'.length := by rw [hz, lexI, if_pos hq]
     repeat (first | ((first | (with_reducible (first | refine Qa fun K E hK hE => ?_ | refine Qp cl1 ?_))); simp -implicitDefEqProofs only [Qe, Qf, OpW, QK, aop, undef, AS.ev, ↓reduceIte, Qm, QA, QB, aBin, aLen, goInt, ti29, un29, QbF, An.cells, t2, t3, t5, hl1, hq, seval]) | (with_reducible (first | refine Qd fun K hK => ?_ | refine Qj ?_ | refine QC ?_ | refine Qb ?_ | refine Qq ?_ | refine Qw ?_ | refine Qy ?_)) | ((with_reducible refine hK _ ?_); clear hK) | (clear hK; (with_reducible refine hK _ ?_); clear hK) | (refine Qg rfl ?_; simp only [↓reduceIte, QpQ]))
     simp only [QD, Ql, Qr, upd, ↓reduceIte, QpS, QpW]; first | refine Qc (htake _ _) (.keep (.v _)) ⟨by rw [e], rfl⟩ | refine Qc List.take_length (.keep (.v _)) ⟨by rw [e], rfl⟩
    | false =>
     have e0 : lexI (cmpL v v') (XF l l') = XF l l' := by rw [hz, lexI, hq]; rfl
     repeat (first | ((first | (with_reducible (first | refine Qa fun K E hK hE => ?_ | refine Qp cl1 ?_))); simp -implicitDefEqProofs only [Qe, Qf, OpW, QK, aop, undef, AS.ev, ↓reduceIte, Qm, QA, QB, aBin, aLen, goInt, ti29, un29, QbF, An.cells, t2, t3, t5, hl1, hq, seval]) | (with_reducible (first | refine Qd fun K hK => ?_ | refine Qi ?_ | refine Qn ?_ | refine QC ?_ | refine Qb ?_ | refine Qw ?_ | refine Qy ?_)) | ((with_reducible refine hK _ ?_); clear hK) | (clear hK; (with_reducible refine hK _ ?_); clear hK) | (refine Qg rfl ?_; simp only [↓reduceIte, QpQ]))
     obtain ⟨I, hI⟩ : ∃ I : Nat → AS → Prop, I = fun m' s => ∃ (k : Nat), m' = l.length - k ∧ k ≤ l.length ∧ k ≤ l'.length ∧ XF l l' = XF (l.drop k) (l'.drop k) ∧ s.tm 2 = .ptr h.length 0 0 ∧ s.tm 3 = .ptr (h.length + 1) 0 0 ∧ s.tm 8 = .i k ∧ s.h = h ++ [.cells 32 3 [(An.mk f v l).av], .cells 32 3 [(An.mk f v' l').av]] := ⟨_, rfl⟩; refine QI I ?_ (m := l.length) ?_
     ·intro m' s hs; rw [hI] at hs; obtain ⟨tm, hp⟩ := s; dsimp only at hs; obtain ⟨k, rfl, hk, hk2, hor, t2, t3, t8, rfl⟩ := hs
      by_cases hlt : k < l.length ∧ k < l'.length
      ·obtain ⟨hlt1, hlt2⟩ := hlt
       have hd := Qb4 hlt1 hlt2
       have hc := Y3 l[k] l'[k] (Nat.le_trans (Qa3 hlt1) hs)
       cases ha : (cmpG l[k] l'[k] != 0) with
       | true =>
        rw [if_pos ha] at hd
        have e : lexI (cmpL v v') (XF l l') = cmpG l[k] l'[k] := by rw [e0, hor, hd]
        repeat (first | ((first | (with_reducible (first | refine Qa fun K E hK hE => ?_ | refine Qz hc ?_)) | (refine Qu (id := 17) [(0, 0), (1, 0), (2, 0), (3, 0), (4, 0), (5, 0), (6, 0), (7, 0), (8, 0), (9, 0), (10, 1), (11, 0)] mixed (by kernel_rfl) fun K hK => ?_)); simp -implicitDefEqProofs only [Qe, Qf, OpW, aop, AS.ev, ↓reduceIte, Qm, QA, QB, Qt, aBin, aLen, goInt, ti30, ei30, un30, Zg, ti45, An.cells, t2, t3, t8, hlt1, hlt2, QR, XR G.atom hlt1, XR G.atom hlt2, QT, Xa, ha, seval]) | (with_reducible (first | refine Qd fun K hK => ?_ | refine Qi ?_ | refine Qj ?_ | refine Qn ?_ | refine Qb ?_ | refine Qq ?_ | refine Qs ?_)) | ((with_reducible refine hK _ ?_); clear hK) | (refine Qg rfl ?_; simp only [↓reduceIte]))
        simp only [QD, Ql, Qr, upd, ↓reduceIte, QpS, QpW]; first | refine Qc (htake _ _) (.keep (.v _)) ⟨by rw [e], rfl⟩ | refine Qc List.take_length (.keep (.v _)) ⟨by rw [e], rfl⟩
       | false =>
        repeat (first | ((first | (with_reducible (first | refine Qa fun K E hK hE => ?_ | refine Qk fun K E hK hE => ?_ | refine Qz hc ?_)) | (refine Qu (id := 17) [(0, 0), (1, 0), (2, 0), (3, 0), (4, 0), (5, 0), (6, 0), (7, 0), (8, 0), (9, 0), (10, 1), (11, 0)] mixed (by kernel_rfl) fun K hK => ?_)); simp -implicitDefEqProofs only [Qe, Qf, OpW, aop, AS.ev, ↓reduceIte, Qm, QA, QB, Qt, aBin, aLen, goInt, ti30, ei30, un30, Zg, ti45, An.cells, t2, t3, t8, hlt1, hlt2, QR, XR G.atom hlt1, XR G.atom hlt2, QT, Xa, ha, seval]) | (with_reducible (first | refine Qd fun K hK => ?_ | refine Qi ?_ | refine Qn ?_ | refine Qb ?_ | refine Qo ?_)) | ((with_reducible refine hK _ ?_); clear hK) | (refine Qg rfl ?_; simp only [↓reduceIte, QpQ]))
        refine QV.mk (m' := l.length - (k + 1)) (by omega) ?_
        rw [hI]
        refine ⟨k + 1, rfl, hlt1, hlt2, ?_, t2, t3, ?_, rfl⟩
        ·rw [hor, hd, ha]; rfl
        ·simp only [upd, ↓reduceIte]
         rw [QP (by omega)]
      ·have hz2 := Qen hk hk2 hlt
       rw [← hor] at hz2
       by_cases hl1 : k < l.length
       ·have hl2 : ¬ k < l'.length := fun q => hlt ⟨hl1, q⟩
        repeat (first | ((first | (with_reducible (first | refine Qa fun K E hK hE => ?_ | refine Qp cl2 ?_))); simp -implicitDefEqProofs only [Qe, Qf, OpW, QK, aop, AS.ev, ↓reduceIte, Qm, QA, QB, aBin, aLen, goInt, ti30, un30, Zg, An.cells, t2, t3, t8, QR, hl1, hl2, seval]) | (with_reducible (first | refine Qd fun K hK => ?_ | refine Qj ?_ | refine QC ?_ | refine Qb ?_ | refine Qw ?_ | refine Qy ?_)) | ((with_reducible refine hK _ ?_); clear hK) | (clear hK; (with_reducible refine hK _ ?_); clear hK) | (refine Qg rfl ?_; simp only [↓reduceIte, QpQ]))
        simp only [QD, Ql, Qr, upd, ↓reduceIte, QpS, QpW]; first | refine Qc (htake _ _) (.keep (.v _)) ⟨by rw [e0, hz2], rfl⟩ | refine Qc List.take_length (.keep (.v _)) ⟨by rw [e0, hz2], rfl⟩
       ·repeat (first | ((first | (with_reducible (first | refine Qa fun K E hK hE => ?_ | refine Qp cl2 ?_))); simp -implicitDefEqProofs only [Qe, Qf, OpW, QK, aop, undef, AS.ev, ↓reduceIte, Qm, QA, QB, aBin, aLen, goInt, ti30, un30, Zg, An.cells, t2, t3, t8, QR, hl1, seval]) | (with_reducible (first | refine Qd fun K hK => ?_ | refine Qj ?_ | refine QC ?_ | refine Qb ?_ | refine Qw ?_ | refine Qy ?_)) | ((with_reducible refine hK _ ?_); clear hK) | (clear hK; (with_reducible refine hK _ ?_); clear hK) | (refine Qg rfl ?_; simp only [↓reduceIte, QpQ]))
        simp only [QD, Ql, Qr, upd, ↓reduceIte, QpS, QpW]; first | refine Qc (htake _ _) (.keep (.v _)) ⟨by rw [e0, hz2], rfl⟩ | refine Qc List.take_length (.keep (.v _)) ⟨by rw [e0, hz2], rfl⟩
     ·rw [hI]
      exact ⟨0, by omega, Nat.zero_le _, Nat.zero_le _, rfl, t2, t3, rfl, rfl⟩
 ·rw [hI]
  exact ⟨0, by omega, Nat.zero_le _, Nat.zero_le _, rfl, rfl, rfl, rfl, rfl⟩
theorem Qbk (a b : An) (hv : ndsL a.vals ≤ 1000000) (hs : gsN a.store ≤ 1000000) : Pure Tryz.prog 22 [a.av, b.av] (.i (ZZ a b)) := by
 obtain ⟨f, v, l⟩ := a
 obtain ⟨f', v', l'⟩ := b
 cases f <;> cases f'
 ·exact Qaf false v v' l l' hv hs
 ·intro h
  have hbn : ∀ xo yo, pv Tryz.prog (do eqGuard .neq 4 xo yo (.bool false) (.bool true); binOp .neq 4 (.bool false) (.bool true)) = some (.bool true) := by intro xo yo; rfl
  have e : ZZ ⟨false, v, l⟩ ⟨true, v', l'⟩ = -1 := rfl
  rw [e]
  refine Qh Tryz.func22 rfl Tryz.call22 Tryz.ntmps22 (congrArg Array.toList Tryz.results22) (by simp) ?_
  repeat (first | (((with_reducible refine Qa fun K E hK hE => ?_)); simp -implicitDefEqProofs only [Qe, Qf, OpW, aop, undef, AS.ev, Qv, AV.QoY, ↓reduceIte, Qm, QA, QB, aBin, ti4, Qc1, An.cells, hbn, seval]) | (with_reducible (first | refine Qd fun K hK => ?_ | refine Qj ?_ | refine Qq ?_)) | ((with_reducible refine hK _ ?_); clear hK) | (refine Qg rfl ?_; simp only [↓reduceIte]))
  simp only [QD, Ql, Qr, upd, ↓reduceIte, QpS, QpW]; first | refine Qc (htake _ _) (.keep (.v _)) ⟨rfl, rfl⟩ | refine Qc List.take_length (.keep (.v _)) ⟨rfl, rfl⟩
 ·intro h
  have hbn : ∀ xo yo, pv Tryz.prog (do eqGuard .neq 4 xo yo (.bool true) (.bool false); binOp .neq 4 (.bool true) (.bool false)) = some (.bool true) := by intro xo yo; rfl
  have e : ZZ ⟨true, v, l⟩ ⟨false, v', l'⟩ = 1 := rfl
  rw [e]
  refine Qh Tryz.func22 rfl Tryz.call22 Tryz.ntmps22 (congrArg Array.toList Tryz.results22) (by simp) ?_
  repeat (first | (((with_reducible refine Qa fun K E hK hE => ?_)); simp -implicitDefEqProofs only [Qe, Qf, OpW, aop, undef, AS.ev, Qv, AV.QoY, ↓reduceIte, Qm, QA, QB, aBin, ti4, Qc1, An.cells, hbn, seval]) | (with_reducible (first | refine Qd fun K hK => ?_ | refine Qj ?_ | refine Qn ?_ | refine Qb ?_ | refine Qq ?_)) | ((with_reducible refine hK _ ?_); clear hK) | (refine Qg rfl ?_; simp only [↓reduceIte, QpQ]))
  simp only [QD, Ql, Qr, upd, ↓reduceIte, QpS, QpW]; first | refine Qc (htake _ _) (.keep (.v _)) ⟨rfl, rfl⟩ | refine Qc List.take_length (.keep (.v _)) ⟨rfl, rfl⟩
 ·exact Qaf true v v' l l' hv hs
structure An.ok (a : An) : Prop where
 v : oks a.vals
 s : ∀ g ∈ a.store, g.ok
 vl : a.vals.length ≤ 9223372036854775807
 sl : a.store.length ≤ 9223372036854775807
def biI (b : Bool) : Int := if b = true then 1 else 0
theorem Qf5 (a b : An) : ZZ a b = lexI (cmpI (biI a.failed) (biI b.failed)) (cmpA a.ct b.ct) := by
 obtain ⟨f, v, l⟩ := a
 obtain ⟨f', v', l'⟩ := b
 cases f <;> cases f' <;> rfl
theorem QiP (a b : An) : ZZ b a = -ZZ a b := by rw [Qf5, Qf5, YL (biI a.failed), ordA.anti a.ct, Yj]
theorem Qez (a : An) : ZZ a a = 0 := by have := QiP a a; omega
def G.aok (g : G) : Prop := g.op = 0 ∧ g.ok
theorem Qik {n : Int} (h : (Lit.int .i64 n).wf = true) : i64 n := by
 simpa [Lit.wf, IntKind.min, IntKind.max, IntKind.signed, IntKind.bits, i64] using h
theorem Qlb : ∀ (l : List T), (∀ t ∈ l, t.ok) → oks l
 | [], _ => trivial
 | t :: l, h => ⟨h t (by simp), Qlb l fun x hx => h x (by simp [hx])⟩
theorem QmZ {n : Nat} (h : n ≤ maxLen) : n ≤ 9223372036854775807 := by simp only [maxLen] at h; omega
theorem Qjg {c : Cx} {s : Nat} {xs : List AV} {own : Option Nat} {u : Value} (h : Rel c (.sl s xs own) u) : xs.length ≤ 9223372036854775807 := by
 cases h with
 | slnil => exact Nat.zero_le _
 | slzero => exact Nat.zero_le _
 | sl _ _ _ B o cap f hs hcap hmax hc hr ht => simp only [maxLen] at hmax; omega
theorem Qao {X : Type} {f : X → AV} {c : Cx} {s : Nat} {xs : List X} {own : Option Nat} {u : Value} (h : Rel c (.sl s (xs.map f) own) u) : xs.length ≤ 9223372036854775807 := by
 have := Qjg h; rwa [List.length_map] at this
theorem Qf8 {H : Type} (enc : TypeId × Value → H) (W : World) : ∀ (fuel : Nat) (cs : List Value) (y : DataW H × List MemPlace), DataW.trod enc Tryz.prog W 0 (fun _ => true) true fuel 41 cs = some y → ∃ p : T, T.ok p ∧ Reads W (T.av p) cs := by
 intro fuel
 induction fuel using Nat.strongRecOn with
 | _ fuel ih =>
 intro cs y h
 obtain ⟨xs, fu, hfu, _, hl, hlen, hf⟩ := DataW.trod_struct Tryz.underlying41 h
 have hC : Tryz.prog.cellsOf 41 = 4 := by kernel_rfl
 rw [hC] at hl
 have hlenN : xs.length = 4 := hlen
 obtain ⟨y0, l1, rfl, k1⟩ := Q8 hlenN
 obtain ⟨y1, l2, rfl, k2⟩ := Q8 k1
 obtain ⟨y2, l3, rfl, k3⟩ := Q8 k2
 obtain ⟨y3, l4, rfl, k4⟩ := Q8 k3
 obtain rfl := len_nil k4
 obtain ⟨c0, l1, rfl, k1⟩ := Q8 hl
 obtain ⟨c1, l2, rfl, k2⟩ := Q8 k1
 obtain ⟨c2, l3, rfl, k3⟩ := Q8 k2
 obtain ⟨c3, l4, rfl, k4⟩ := Q8 k3
 obtain rfl := len_nil k4
 have g0 : DataW.trod enc Tryz.prog W 0 (fun _ => true) true fu 3 (([c0, c1, c2, c3].drop 0).take (Tryz.prog.cellsOf 3)) = some y0 := hf 0 _ rfl
 rw [show Tryz.prog.cellsOf 3 = 1 by kernel_rfl] at g0
 have g1 : DataW.trod enc Tryz.prog W 0 (fun _ => true) true fu 3 (([c0, c1, c2, c3].drop 1).take (Tryz.prog.cellsOf 3)) = some y1 := hf 1 _ rfl
 rw [show Tryz.prog.cellsOf 3 = 1 by kernel_rfl] at g1
 have g2 : DataW.trod enc Tryz.prog W 0 (fun _ => true) true fu 9 (([c0, c1, c2, c3].drop 2).take (Tryz.prog.cellsOf 9)) = some y2 := hf 2 _ rfl
 rw [show Tryz.prog.cellsOf 9 = 1 by kernel_rfl] at g2
 have g3 : DataW.trod enc Tryz.prog W 0 (fun _ => true) true fu 29 (([c0, c1, c2, c3].drop 3).take (Tryz.prog.cellsOf 29)) = some y3 := hf 3 _ rfl
 rw [show Tryz.prog.cellsOf 29 = 1 by kernel_rfl] at g3
 clear hf
 simp only [Qp3, QpV, QpX, Qp4] at g0 g1 g2 g3
 obtain ⟨f0, e0, _, w0⟩ := DataW.trod_int Tryz.underlying3 g0
 obtain ⟨f1, e1, _, w1⟩ := DataW.trod_int Tryz.underlying3 g1
 obtain ⟨f2, e2, _, w2⟩ := DataW.trod_string Tryz.underlying9 g2
 obtain ⟨f3, u3, q3, e3, hu3, hr3⟩ := QaF (X := T) (val := T.av) (Good := T.ok) (s := 4) Tryz.underlying29 (by kernel_rfl) (by omega) (fun t => by rw [T.Qo3]; rfl) (fun m cs y hm hy => ih m (by omega) cs y hy) g3
 have n3 := Qao hr3
 rw [← YO] at hr3
 cases e0
 cases e1
 cases e2
 cases e3
 refine ⟨.mk f0 f1 f2 f3, by simp only [T.ok]; exact ⟨Qik w0, Qik w1, QmZ w2, Qlb _ q3⟩, rfl, fun j x v hx hv => ?_⟩
 rw [T.Qo3] at hx
 simp only [T.kind, T.int, T.name, T.args] at hx
 match j, hx, hv with
 | 0, hx, hv => simp at hx hv; subst hx; subst hv; exact ⟨.v _, rfl⟩
 | 1, hx, hv => simp at hx hv; subst hx; subst hv; exact ⟨.v _, rfl⟩
 | 2, hx, hv => simp at hx hv; subst hx; subst hv; exact ⟨.v _, rfl⟩
 | 3, hx, hv => simp at hx hv; subst hx; subst hv; exact ⟨hr3, hu3⟩
 | j + 4, hx, hv => simp at hx
theorem Qk2 {H : Type} (enc : TypeId × Value → H) (W : World) (fuel : Nat) (cs : List Value) (y : DataW H × List MemPlace) (h : DataW.trod enc Tryz.prog W 0 (fun _ => true) true fuel 45 cs = some y) : ∃ p : G, G.aok p ∧ Reads W (G.atom p) cs := by
 obtain ⟨xs, fu, hfu, _, hl, hlen, hf⟩ := DataW.trod_struct Tryz.underlying45 h
 have hC : Tryz.prog.cellsOf 45 = 2 := by kernel_rfl
 rw [hC] at hl
 have hlenN : xs.length = 2 := hlen
 obtain ⟨y0, l1, rfl, k1⟩ := Q8 hlenN
 obtain ⟨y1, l2, rfl, k2⟩ := Q8 k1
 obtain rfl := len_nil k2
 obtain ⟨c0, l1, rfl, k1⟩ := Q8 hl
 obtain ⟨c1, l2, rfl, k2⟩ := Q8 k1
 obtain rfl := len_nil k2
 have g0 : DataW.trod enc Tryz.prog W 0 (fun _ => true) true fu 9 (([c0, c1].drop 0).take (Tryz.prog.cellsOf 9)) = some y0 := hf 0 _ rfl
 rw [show Tryz.prog.cellsOf 9 = 1 by kernel_rfl] at g0
 have g1 : DataW.trod enc Tryz.prog W 0 (fun _ => true) true fu 29 (([c0, c1].drop 1).take (Tryz.prog.cellsOf 29)) = some y1 := hf 1 _ rfl
 rw [show Tryz.prog.cellsOf 29 = 1 by kernel_rfl] at g1
 clear hf
 simp only [Qp3, QpV, QpX, Qp4] at g0 g1
 obtain ⟨f0, e0, _, w0⟩ := DataW.trod_string Tryz.underlying9 g0
 obtain ⟨f1, u1, q1, e1, hu1, hr1⟩ := QaF (X := T) (val := T.av) (Good := T.ok) (s := 4) Tryz.underlying29 (by kernel_rfl) (by omega) (fun t => by rw [T.Qo3]; rfl) (fun m cs y _ hy => Qf8 enc W m cs y hy) g1
 have n1 := Qao hr1
 rw [← YO] at hr1
 cases e0
 cases e1
 refine ⟨⟨0, f0, f1⟩, ⟨rfl, by show i64 0; unfold i64; omega, QmZ w0, Qlb _ q1⟩, rfl, fun j x v hx hv => ?_⟩
 rw [QT] at hx
 match j, hx, hv with
 | 0, hx, hv => simp at hx hv; subst hx; subst hv; exact ⟨.v _, rfl⟩
 | 1, hx, hv => simp at hx hv; subst hx; subst hv; exact ⟨hr1, hu1⟩
 | j + 2, hx, hv => simp at hx
theorem Qi9 {b : List (Int × T)} {j : Nat} (h : j < b.length) (v : Int) : XB (b.drop j) v = if (b[j]).1 = v then some (b[j]).2 else XB (b.drop (j + 1)) v := by
 rw [List.drop_eq_getElem_cons h]; rfl
theorem QaX (b : List (Int × T)) (v : Int) (hb : b.length ≤ 1000000) : Pure Tryz.prog 44 [.sl 5 (bavs b) none, .i v] (.tup [(match XB b v with | some x => x | none => T.zero).av, .b (XB b v).isSome]) := by
 intro h
 refine Qh Tryz.func44 rfl Tryz.call44 Tryz.ntmps44 (congrArg Array.toList Tryz.results44) (by simp) ?_
 repeat (first | (((with_reducible refine Qa fun K E hK hE => ?_)); simp -implicitDefEqProofs only [Qe, Qf, OpW, aop, AS.ev, AV.QoY, ↓reduceIte, zi41, seval]) | (with_reducible (first | refine Qd fun K hK => ?_ | refine Qi ?_)) | ((with_reducible refine hK _ ?_); clear hK))
 obtain ⟨I, hI⟩ : ∃ I : Nat → AS → Prop, I = fun m' s => ∃ j : Nat, m' = b.length - j ∧ j ≤ b.length ∧ XB b v = XB (b.drop j) v ∧ s.tm 0 = .sl 5 (bavs b) none ∧ s.tm 1 = .i v ∧ s.tm 4 = .ptr h.length 0 0 ∧ s.tm 6 = .i j ∧ s.h = h ++ [.cells 41 4 [.agg [.i 0, .i 0, .v (.string { data := #[] }), .v (.slice none 0 0)]]] := ⟨_, rfl⟩; refine QI I ?_ (m := b.length) ?_
 ·intro m' s hs; rw [hI] at hs; obtain ⟨tm, hp⟩ := s; dsimp only at hs; obtain ⟨j, rfl, hj, he, t0, t1, t4, t6, rfl⟩ := hs
  by_cases hlt : j < b.length
  ·rw [Qi9 hlt] at he
   by_cases hz : (b[j]).1 = v
   ·have hb1 : ((b[j]).1 == v) = true := by simpa using hz
    rw [if_pos hz] at he
    repeat (first | (((with_reducible refine Qa fun K E hK hE => ?_)); simp -implicitDefEqProofs only [Qe, Qf, OpW, aop, undef, AS.ev, AV.QoY, ↓reduceIte, Qm, QA, QB, QO, QH, Qt, aBin, aLen, goInt, ti3, ei23, un23, ti41, Xx, Zc, t0, t1, t4, t6, hlt, QL, QY hlt, QN, Xh, hb1, seval]) | (with_reducible (first | refine Qd fun K hK => ?_ | refine Qi ?_ | refine Qj ?_ | refine Qn ?_ | refine Qb ?_ | refine Qq ?_ | refine Qs ?_)) | ((with_reducible refine hK _ ?_); clear hK) | (refine Qg rfl ?_; simp only [↓reduceIte]))
    simp -implicitDefEqProofs only [Qe, ↓reduceIte, QA, QB, ti41, t4, List.mapM_cons, List.mapM_nil, Option.pure_def, Option.bind_eq_bind, QD, Ql, Qr, QpW, seval]
    rw [← T.Qo7, he]
    exact Qc (htake _ _) (.keep (.tup _ (by
     intro a ha
     simp only [List.mem_cons, List.not_mem_nil, or_false] at ha
     rcases ha with rfl | rfl
     ·exact T.Qo0 _ _
     ·exact .v _))) ⟨rfl, rfl⟩
   ·have hb1 : ((b[j]).1 == v) = false := by simpa using hz
    rw [if_neg hz] at he
    repeat (first | ((first | (with_reducible (first | refine Qa fun K E hK hE => ?_ | refine Qk fun K E hK hE => ?_))); simp -implicitDefEqProofs only [Qe, Qf, OpW, aop, AS.ev, ↓reduceIte, Qm, QA, QB, Qt, aBin, aLen, goInt, ti3, ei23, un23, Xx, t0, t1, t6, hlt, QL, QY hlt, QN, hb1, seval]) | (with_reducible (first | refine Qd fun K hK => ?_ | refine Qi ?_ | refine Qn ?_ | refine Qb ?_ | refine Qo ?_)) | ((with_reducible refine hK _ ?_); clear hK) | (refine Qg rfl ?_; simp only [↓reduceIte, QpQ]))
    refine QV.mk (m' := b.length - (j + 1)) (by omega) ?_
    rw [hI]
    refine ⟨j + 1, rfl, hlt, he, t0, t1, t4, ?_, rfl⟩
    simp only [upd, ↓reduceIte]
    rw [QP (by omega)]
  ·have hjl : j = b.length := by omega
   rw [hjl, List.drop_length] at he
   have he' : XB b v = none := he
   rw [he']
   repeat (first | (((with_reducible refine Qa fun K E hK hE => ?_)); simp -implicitDefEqProofs only [Qe, Qf, OpW, aop, undef, AS.ev, AV.QoY, ↓reduceIte, QO, QH, aBin, XA, XV, aLen, goInt, un23, ti41, zi41, sp41, t0, t4, t6, hlt, QL, seval]) | (with_reducible (first | refine Qd fun K hK => ?_ | refine Qj ?_ | refine QC ?_ | refine Qb ?_ | refine Qw ?_ | refine Qy ?_)) | ((with_reducible refine hK _ ?_); clear hK) | (clear hK; (with_reducible refine hK _ ?_); clear hK) | (refine Qg rfl ?_; simp only [↓reduceIte, QpQ]))
   simp -implicitDefEqProofs only [Qe, ↓reduceIte, QA, QB, ti41, t4, List.mapM_cons, List.mapM_nil, Option.pure_def, Option.bind_eq_bind, QD, Ql, Qr, QpW, seval]
   exact Qc (r' := .tup [.agg [.i 0, .i 0, .v (.string { data := #[] }), .sl 4 [] none], .b false]) (htake _ _) (.tup rfl (Xe (.agg rfl (Xe (.keep (.v _)) (Xe (.keep (.v _)) (Xe (.keep (.v _)) (X3 (.nil 4)))))) (X3 (.keep (.v _))))) ⟨by rw [he']; simp only [T.zero, T.av, avs, Option.isSome], rfl⟩
 ·rw [hI]
  exact ⟨0, by omega, Nat.zero_le _, rfl, rfl, rfl, rfl, rfl, rfl⟩
theorem Qbq (b : List (Int × T)) (n : Nat) (hb : n ≤ 1000000) (ih : ∀ t : T, t.nds ≤ n → Pure Tryz.prog 15 [.sl 5 (bavs b) none, t.av] (t.subst b).av) (l : List T) (hn : ndsL l ≤ n) :
  Pure Tryz.prog 45 [.sl 5 (bavs b) none, .sl 4 (avs l) none] (.sl 4 (avs (Xd b l)) none) := by
 intro h
 have hll := QW l
 refine Qh Tryz.func45 rfl Tryz.call45 Tryz.ntmps45 (congrArg Array.toList Tryz.results45) (by simp) ?_
 repeat (first | (((with_reducible refine Qa fun K E hK hE => ?_)); simp -implicitDefEqProofs only [Qe, Qf, OpW, aop, AS.ev, Nat.reduceLT]) | (with_reducible (first | refine Qd fun K hK => ?_ | refine Qi ?_)) | ((with_reducible refine hK _ ?_); clear hK))
 refine XQ 5 41 4 rfl ?_
 obtain ⟨I, hI⟩ : ∃ I : Nat → AS → Prop, I = fun m' s => ∃ (j : Nat) (L : AH), m' = l.length - j ∧ j ≤ l.length ∧ s.tm 0 = .sl 5 (bavs b) none ∧ s.tm 1 = .sl 4 (avs l) none ∧ s.tm 5 = .sl 4 (avs (Xd b (l.take j))) (some h.length) ∧ s.tm 6 = .i j ∧ s.h = h ++ ([.grow 41 4 j] ++ L) := ⟨_, rfl⟩; refine QI I ?_ (m := l.length) ?_
 ·intro m' s hs; rw [hI] at hs; obtain ⟨tm, hp⟩ := s; dsimp only at hs; obtain ⟨j, L, rfl, hj, t0, t1, t5, t6, rfl⟩ := hs
  by_cases hlt : j < l.length
  ·have hc := ih l[j] (Nat.le_trans (XM hlt) hn)
   have hml : (Xd b (l.take j)).length = j := by rw [YS, List.length_take]; omega
   have hb1 : j + 1 ≤ maxLen := by simp only [maxLen]; omega
   have hb2 : (j + 1) * 56 ≤ 140737488355328 := by omega
   repeat (first | ((first | (with_reducible (first | refine Qa fun K E hK hE => ?_ | refine Qk fun K E hK hE => ?_ | refine Qp hc ?_))); simp -implicitDefEqProofs only [Qe, Qf, OpW, QK, aop, AS.ev, AV.QoY, ↓reduceIte, QA, QB, Qt, aBin, QM, aLen, Xr, XS, goInt, ei29, ai29, un29, ti41, zi41, t0, t1, t5, t6, hlt, Q3 hlt, hml, hb1, hb2, seval]) | (with_reducible (first | refine Qd fun K hK => ?_ | refine Qi ?_ | refine Qn ?_ | refine Qb ?_ | refine Qo ?_)) | ((with_reducible refine hK _ ?_); clear hK) | (refine Qg rfl ?_; simp only [↓reduceIte]))
   refine QV.mk (m' := l.length - (j + 1)) (by omega) ?_
   rw [hI]
   refine ⟨j + 1, L, rfl, hlt, t0, t1, ?_, ?_, rfl⟩
   ·simp only [upd, ↓reduceIte, Nat.reduceEqDiff]
    rw [YP hlt, Ye, Zi]
   ·simp only [upd, ↓reduceIte]
    rw [QP (by omega)]
  ·have hjl : j = l.length := by omega
   repeat (first | (((with_reducible refine Qa fun K E hK hE => ?_)); simp -implicitDefEqProofs only [Qe, Qf, OpW, aop, AS.ev, ↓reduceIte, aBin, aLen, goInt, un29, t1, t5, t6, hlt, seval]) | (with_reducible (first | refine Qd fun K hK => ?_ | refine Qj ?_ | refine QC ?_ | refine Qb ?_ | refine Qw ?_ | refine Qy ?_)) | ((with_reducible refine hK _ ?_); clear hK) | (clear hK; (with_reducible refine hK _ ?_); clear hK) | (refine Qg rfl ?_; simp only [↓reduceIte, QpQ]))
   simp only [QD, Ql, Qr, upd, ↓reduceIte, QpS, QpW]; first | refine Qc (htake _ _) (.tok (YE _ _)) ⟨by rw [hjl, List.take_length], rfl⟩ | refine Qc List.take_length (.tok (YE _ _)) ⟨by rw [hjl, List.take_length], rfl⟩
 ·rw [hI]
  exact ⟨0, [], by omega, Nat.zero_le _, rfl, rfl, rfl, rfl, rfl⟩
theorem YT (b : List (Int × T)) (hb : b.length ≤ 1000000) : ∀ n, n ≤ 1000000 → ∀ t : T, t.nds ≤ n → Pure Tryz.prog 15 [.sl 5 (bavs b) none, t.av] (t.subst b).av
 | 0, _, t, hn => by have := T.Qo1 t; omega
 | n + 1, hbn, t, hn => by
  intro h
  have e := T.subst_eq b t
  have hnd := T.Qo1 t
  by_cases h1 : t.kind = 1
  ·have b1 : (t.kind == 1) = true := by simpa using h1
   rw [if_pos h1] at e
   have c1 := QaX b t.int hb
   cases hlk : XB b t.int with
   | none =>
    rw [hlk] at c1 e
    refine Qh Tryz.func15 rfl Tryz.call15 Tryz.ntmps15 (congrArg Array.toList Tryz.results15) (by simp) ?_
    repeat (first | ((first | (with_reducible (first | refine Qa fun K E hK hE => ?_ | refine Qp c1 ?_))); simp -implicitDefEqProofs only [Qe, Qf, OpW, QK, aop, undef, AS.ev, Qv, AV.QoY, ↓reduceIte, Qm, QA, QB, QO, QH, aBin, Xo, ti3, ti41, QX, Q9, zi41, b1, Option.isSome, seval]) | (with_reducible (first | refine Qd fun K hK => ?_ | refine Qi ?_ | refine Qj ?_ | refine Qn ?_ | refine Qb ?_ | refine Qo ?_)) | ((with_reducible refine hK _ ?_); clear hK) | (refine Qg rfl ?_; simp only [↓reduceIte, QpQ]))
    simp -implicitDefEqProofs only [Qe, ↓reduceIte, QA, QB, ti41, QD, Ql, Qr, QpW, seval]
    exact Qc (htake _ _) (.keep (T.Qo0 _ _)) ⟨by rw [e], rfl⟩
   | some x =>
    rw [hlk] at c1 e
    refine Qh Tryz.func15 rfl Tryz.call15 Tryz.ntmps15 (congrArg Array.toList Tryz.results15) (by simp) ?_
    repeat (first | ((first | (with_reducible (first | refine Qa fun K E hK hE => ?_ | refine Qp c1 ?_))); simp -implicitDefEqProofs only [Qe, Qf, OpW, QK, aop, undef, AS.ev, Qv, AV.QoY, ↓reduceIte, Qm, QA, QB, QO, QH, aBin, Xo, ti3, ti41, QX, Q9, zi41, b1, Option.isSome, seval]) | (with_reducible (first | refine Qd fun K hK => ?_ | refine Qi ?_ | refine Qj ?_ | refine Qq ?_ | refine Qs ?_)) | ((with_reducible refine hK _ ?_); clear hK) | (refine Qg rfl ?_; simp only [↓reduceIte]))
    simp -implicitDefEqProofs only [Qe, ↓reduceIte, QA, QB, ti41, QD, Ql, Qr, QpW, seval]
    exact Qc (htake _ _) (.keep (T.Qo0 _ _)) ⟨by rw [e], rfl⟩
  ·have b1 : (t.kind == 1) = false := by simpa using h1
   rw [if_neg h1] at e
   by_cases h2 : t.kind = 2
   ·have b2 : (t.kind == 2) = true := by simpa using h2
    rw [if_pos h2] at e
    have c2 := Qbq b n (by omega) (YT b hb n (by omega)) t.args (by omega)
    refine Qh Tryz.func15 rfl Tryz.call15 Tryz.ntmps15 (congrArg Array.toList Tryz.results15) (by simp) ?_
    repeat (first | ((first | (with_reducible (first | refine Qa fun K E hK hE => ?_ | refine Qk fun K E hK hE => ?_ | refine Qp c2 ?_))); simp -implicitDefEqProofs only [Qe, Qf, OpW, QK, aop, undef, AS.ev, Qv, AV.QoY, ↓reduceIte, Qm, QA, QB, QO, QH, aBin, ti3, ti29, ti41, QX, Xc, zi41, b1, b2, seval]) | (with_reducible (first | refine Qd fun K hK => ?_ | refine Qi ?_ | refine Qj ?_ | refine Qb ?_ | refine Qo ?_)) | ((with_reducible refine hK _ ?_); clear hK) | (refine Qg rfl ?_; simp only [↓reduceIte, QpQ]))
    simp -implicitDefEqProofs only [Qe, ↓reduceIte, QA, QB, ti41, QD, Ql, Qr, QpW, seval]
    rw [T.Qo9]
    exact Qc (htake _ _) (.keep (T.Qo0 _ _)) ⟨by rw [e], rfl⟩
   ·have b2 : (t.kind == 2) = false := by simpa using h2
    rw [if_neg h2] at e
    refine Qh Tryz.func15 rfl Tryz.call15 Tryz.ntmps15 (congrArg Array.toList Tryz.results15) (by simp) ?_
    repeat (first | (((with_reducible refine Qa fun K E hK hE => ?_)); simp -implicitDefEqProofs only [Qe, Qf, OpW, aop, undef, AS.ev, Qv, AV.QoY, ↓reduceIte, Qm, QA, QB, QO, QH, aBin, ti3, ti41, QX, zi41, b1, b2, seval]) | (with_reducible (first | refine Qd fun K hK => ?_ | refine Qi ?_ | refine Qj ?_ | refine Qn ?_ | refine Qb ?_ | refine Qo ?_)) | ((with_reducible refine hK _ ?_); clear hK) | (refine Qg rfl ?_; simp only [↓reduceIte, QpQ]))
    simp -implicitDefEqProofs only [Qe, ↓reduceIte, QA, QB, ti41, QD, Ql, Qr, QpW, seval]
    exact Qc (htake _ _) (.keep (T.Qo0 _ _)) ⟨by rw [e], rfl⟩
theorem Zp (b : List (Int × T)) (hb : b.length ≤ 1000000) (g : G) (hn : ndsL g.args ≤ 1000000) : Pure Tryz.prog 17 [.sl 5 (bavs b) none, g.atom] (subG b g).atom := by
 intro h
 have c1 := Qbq b 1000000 (Nat.le_refl _) (YT b hb 1000000 (Nat.le_refl _)) g.args hn
 refine Qh Tryz.func17 rfl Tryz.call17 Tryz.ntmps17 (congrArg Array.toList Tryz.results17) (by simp) ?_
 repeat (first | ((first | (with_reducible (first | refine Qa fun K E hK hE => ?_ | refine Qz c1 ?_)) | (refine Qu (id := 1) [(0, 0), (1, 0), (2, 0), (3, 0), (4, 0), (5, 1), (6, 0), (7, 2)] mixed (by kernel_rfl) fun K hK => ?_)); simp -implicitDefEqProofs only [Qe, Qf, OpW, aop, undef, AS.ev, Qv, AV.QoY, ↓reduceIte, Qm, QA, QB, QO, QH, XA, XV, ti9, ti29, ti45, YQ, YK, zi45, sp45, QT, seval]) | (with_reducible refine Qj ?_) | ((with_reducible refine hK _ ?_); clear hK))
 simp -implicitDefEqProofs only [Qe, ↓reduceIte, QA, QB, ti45, QD, Ql, Qr, QpW, seval]
 exact Qc (htake _ _) (.keep (.agg _ (ZH _ (subG b g)))) ⟨rfl, rfl⟩
end Go.Proofs.YtniljpjjnmkoaaaGreatDoor.Ab

