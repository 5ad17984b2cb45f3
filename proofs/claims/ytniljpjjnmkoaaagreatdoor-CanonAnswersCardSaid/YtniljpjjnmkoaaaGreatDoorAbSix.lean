/-
  An abstract program logic, contracts of functions, and laws of terms and rules (part 6).
-/
import Derived.Test.YtniljpjjnmkoaaaGreatDoorAbFive
import Derived.Test.YtniljpjjnmkoaaaGreatDoorAbTwo
import Derived.Test.YtniljpjjnmkoaaaGreatDoorAbFour
set_option linter.unusedVariables false
set_option linter.unusedSimpArgs false
set_option maxHeartbeats 4000000
set_option maxRecDepth 4000
namespace Go.Proofs.YtniljpjjnmkoaaaGreatDoor.Ab
open Go.Proofs
mutual
theorem T.Qoz : ∀ (t : T), t.vars.length ≤ t.nds
 | .mk k i n l => by
  simp only [T.vars, T.nds]
  split
  ·simp
  ·split
   ·have := Qb5 l; omega
   ·simp
theorem Qb5 : ∀ (l : List T), (Yr l).length ≤ ndsL l
 | [] => by simp [Yr, ndsL]
 | t :: l => by
  have h1 := T.Qoz t
  have h2 := Qb5 l
  simp only [Yr, ndsL, QpZ]; omega
end
theorem QlM (u : List Int) (own : Option Nat) (n : Int) (hb : u.length ≤ 1000000) : Pure Tryz.prog 84 [.sl 1 (ints u) own, .i n] (.b (decide (n ∈ u))) := by
 intro h
 refine Qh Tryz.func84 rfl Tryz.call84 Tryz.ntmps84 (congrArg Array.toList Tryz.results84) (by simp) ?_
 repeat (first | (((with_reducible refine Qa fun K E hK hE => ?_)); simp -implicitDefEqProofs only [Qe, Qf, OpW, aop, AS.ev, Nat.reduceLT]) | (with_reducible (first | refine Qc fun K hK => ?_ | refine Qi ?_)) | ((with_reducible refine hK _ ?_); clear hK))
 obtain ⟨I, hI⟩ : ∃ I : Nat → AS → Prop, I = fun m' s => ∃ j : Nat, m' = u.length - j ∧ j ≤ u.length ∧ (n ∈ u ↔ n ∈ u.drop j) ∧ s.tm 0 = .sl 1 (ints u) own ∧ s.tm 1 = .i n ∧ s.tm 5 = .i j ∧ s.h = h := ⟨_, rfl⟩; refine QI I ?_ (m := u.length) ?_
 ·intro m' s hs; rw [hI] at hs; obtain ⟨tm, hp⟩ := s; dsimp only at hs; obtain ⟨j, rfl, hj, he, t0, t1, t5, rfl⟩ := hs
  by_cases hlt : j < u.length
  ·rw [List.drop_eq_getElem_cons hlt, List.mem_cons] at he
   by_cases hz : u[j] = n
   ·have hb1 : (u[j] == n) = true := by simpa using hz
    have hm : n ∈ u := he.2 (.inl hz.symm)
    repeat (first | (((with_reducible refine Qa fun K E hK hE => ?_)); simp -implicitDefEqProofs only [Qe, Qf, OpW, aop, AS.ev, ↓reduceIte, QB, QC, Qt, aBin, aLen, goInt, ti3, ei49, un49, t0, t1, t5, hlt, XQ hlt, hb1, seval]) | (with_reducible (first | refine Qc fun K hK => ?_ | refine Qi ?_ | refine Qj ?_ | refine Qm ?_ | refine Qb ?_ | refine Qq ?_ | refine Qs ?_)) | ((with_reducible refine hK _ ?_); clear hK) | (refine Qg rfl ?_; simp only [↓reduceIte]))
    simp only [QD, Ql, Qr, upd, ↓reduceIte, Qpe, Qpi]
    exact Qd List.take_length (.keep (.v _)) ⟨by rw [decide_eq_true hm], rfl⟩
   ·have hb1 : (u[j] == n) = false := by simpa using hz
    repeat (first | ((first | (with_reducible (first | refine Qa fun K E hK hE => ?_ | refine Qk fun K E hK hE => ?_))); simp -implicitDefEqProofs only [Qe, Qf, OpW, aop, AS.ev, ↓reduceIte, QB, QC, Qt, aBin, aLen, goInt, ti3, ei49, un49, t0, t1, t5, hlt, XQ hlt, hb1, seval]) | (with_reducible (first | refine Qc fun K hK => ?_ | refine Qi ?_ | refine Qm ?_ | refine Qb ?_ | refine Qn ?_)) | ((with_reducible refine hK _ ?_); clear hK) | (refine Qg rfl ?_; simp only [↓reduceIte, Qpc]))
    refine QW.mk (m' := u.length - (j + 1)) (by omega) ?_
    rw [hI]
    refine ⟨j + 1, rfl, hlt, he.trans ⟨fun h => h.elim (fun e => absurd e.symm hz) id, .inr⟩, t0, t1, ?_, rfl⟩
    simp only [upd, ↓reduceIte]
    rw [QN (by omega)]
  ·have hjl : j = u.length := by omega
   rw [hjl, List.drop_length] at he
   have hm : ¬ n ∈ u := fun h => by simpa using he.1 h
   repeat (first | (((with_reducible refine Qa fun K E hK hE => ?_)); simp -implicitDefEqProofs only [Qe, Qf, OpW, aop, AS.ev, ↓reduceIte, aBin, aLen, goInt, un49, t0, t5, hlt, seval]) | (with_reducible (first | refine Qc fun K hK => ?_ | refine Qj ?_ | refine QA ?_ | refine Qb ?_ | refine Qu ?_ | refine Qv ?_)) | ((with_reducible refine hK _ ?_); clear hK) | (clear hK; (with_reducible refine hK _ ?_); clear hK) | (refine Qg rfl ?_; simp only [↓reduceIte, Qpc]))
   simp only [QD, Ql, Qr, upd, ↓reduceIte, Qpe, Qpi]
   exact Qd List.take_length (.keep (.v _)) ⟨by rw [decide_eq_false hm], rfl⟩
 ·rw [hI]
  exact ⟨0, by omega, Nat.zero_le _, by simp, rfl, rfl, rfl, rfl⟩
structure TokOk (H : Nat → AH) (m k e s : Nat) : Prop where
 len : ∀ n, (H n).length = m
 lt : k < m
 get : ∀ n, (H n)[k]? = some (.grow e s n)
 set : ∀ n n', (H n).set k (.grow e s n') = H n'
theorem TokOk.old {H : Nat → AH} {m k e s : Nat} (V : TokOk H m k e s) : ∀ n n' (i : Nat) b, (H n')[i]? = some b → (H n)[i]? = some b ∨ b.Below m := by
 intro n n' i b hb
 rw [← V.set n n'] at hb
 by_cases hi : k = i
 ·subst hi
  rw [List.getElem?_set_self (by rw [V.len]; exact V.lt)] at hb
  cases hb
  exact .inr trivial
 ·rw [List.getElem?_set_ne hi] at hb
  exact .inl hb
theorem T.QoS (t : T) : t.vars = if t.kind = 1 then [t.int] else Yr t.uses := by
 cases t with | mk k i n l =>
 show T.vars (.mk k i n l) = if k = 1 then [i] else Yr (if k = 2 then l else [])
 simp only [T.vars]
 by_cases h1 : k = 1
 ·rw [if_pos h1, if_pos h1]
 ·rw [if_neg h1, if_neg h1]
  by_cases h2 : k = 2
  ·rw [if_pos h2, if_pos h2]
  ·rw [if_neg h2, if_neg h2]; rfl
theorem Zb {H : Nat → AH} {m k : Nat} (V : TokOk H m k 3 1) : ∀ n, n ≤ 1000000 → ∀ (t : T) (u : List Int) (L : AH), t.nds ≤ n → u.length + t.nds ≤ 1000000 →
  Xi Tryz.prog 46 [.sl 1 (ints u) (some k), t.av] (H u.length ++ L) fun o h' => o = .ret (.sl 1 (ints (ded u t.vars)) (some k)) ∧ h' = H (ded u t.vars).length ++ L
 | 0, _, t, _, _, hn, _ => by have := T.Qow t; omega
 | n + 1, hb, t, u, L, hn, hu => by
  have e := T.QoS t
  have hnd := T.Qow t
  have hm := V.len
  have gk : ∀ (n : Nat) (L : AH) (k : Nat), (H n ++ L)[m + k]? = L[k]? := fun u L k => by rw [← hm u]; exact hget _ _ _
  have sk : ∀ (n : Nat) (L : AH) (k : Nat) (b : AB), (H n ++ L).set (m + k) b = H n ++ L.set k b := fun u L k b => by rw [← hm u]; exact hset _ _ _ _
  have gt : ∀ (n : Nat) (L : AH), (H n ++ L)[k]? = some (.grow 3 1 n) := fun n L => by rw [List.getElem?_append_left (by rw [hm]; exact V.lt)]; exact V.get n
  have st : ∀ (n n' : Nat) (L : AH), (H n ++ L).set k (.grow 3 1 n') = H n' ++ L := fun n n' L => by rw [List.set_append_left _ _ (by rw [hm]; exact V.lt), V.set]
  have ca := Qaj t
  have ch := QlM u (some k) t.int (by omega)
  have hlu := QY t.uses
  have hul := Zl t
  by_cases h1 : t.kind = 1
  ·have b1 : (t.kind == 1) = true := by simpa using h1
   have hus : t.uses = [] := by unfold T.uses; rw [if_neg (by omega)]
   rw [if_pos h1] at e
   by_cases hmem : t.int ∈ u
   ·have hed : ded u t.vars = ded u (Yr (t.uses.drop 0)) := by rw [e, hus]; exact if_pos hmem
    have hlen' : u.length + ndsL (t.uses.drop 0) ≤ 1000000 := by rw [List.drop_zero]; omega
    rw [decide_eq_true hmem] at ch
    refine Qh Tryz.func46 rfl Tryz.call46 Tryz.ntmps46 (congrArg Array.toList Tryz.results46) (by simp) ?_
    repeat (first | ((first | (with_reducible (first | refine Qa fun K E hK hE => ?_ | refine Qp ca ?_ | refine Qp ch ?_))); simp -implicitDefEqProofs only [Qe, Qf, OpW, QJ, aop, undef, AS.ev, Qy, AV.Qot, ↓reduceIte, Qo, QB, QC, aBin, ti3, ti41, Q0, Xe, b1, hm, gk, seval]) | (with_reducible (first | refine Qc fun K hK => ?_ | refine Qi ?_ | refine Qm ?_ | refine Qb ?_)) | ((with_reducible refine hK _ ?_); clear hK) | (refine Qg rfl ?_; simp only [↓reduceIte, Qpc]))
    obtain ⟨I, hI⟩ : ∃ I : Nat → AS → Prop, I = fun m' s => ∃ (j : Nat) (v : List Int) (M : AH), m' = t.uses.length - j ∧ j ≤ t.uses.length ∧ ded u t.vars = ded v (Yr (t.uses.drop j)) ∧ v.length + ndsL (t.uses.drop j) ≤ 1000000 ∧ s.tm 0 = .sl 1 (ints v) (some k) ∧ s.tm 5 = .sl 4 (avs t.uses) none ∧ s.tm 6 = .i j ∧ s.h = H v.length ++ (L ++ M) := ⟨_, rfl⟩; refine QI I ?_ (m := t.uses.length) ?_
    ·intro m' s hs; rw [hI] at hs; obtain ⟨tm, hp⟩ := s; dsimp only at hs; obtain ⟨j, v, M, rfl, hj, hw, hv, t0, t5, t6, rfl⟩ := hs
     by_cases hlt : j < t.uses.length
     ·rw [List.drop_eq_getElem_cons hlt] at hw hv
      simp only [Yr, YY] at hw
      simp only [ndsL] at hv
      have hcc := fun L => Zb V n (by omega) t.uses[j] v L (Nat.le_trans (XT hlt) (by omega)) (by omega)
      have hdl := Zw v (t.uses[j]).vars
      have hvl := T.Qoz t.uses[j]
      repeat (first | ((first | (with_reducible (first | refine Qa fun K E hK hE => ?_ | refine Qk fun K E hK hE => ?_ | refine FunW.ret (FunW.call (hcc _)) ?_))); simp -implicitDefEqProofs only [Qe, Qf, OpW, QJ, aop, AS.ev, ↓reduceIte, QB, QC, Qt, aBin, aLen, goInt, ei29, un29, ti41, t0, t5, t6, hlt, Xd hlt, seval]) | (with_reducible (first | refine Qc fun K hK => ?_ | refine Qi ?_ | refine Qm ?_ | refine Qb ?_ | refine Qn ?_)) | ((with_reducible refine hK _ ?_); clear hK) | (refine Qg rfl ?_; simp only [↓reduceIte]))
      refine QW.mk (m' := t.uses.length - (j + 1)) (by omega) ?_
      rw [hI]
      refine ⟨j + 1, _, _, rfl, hlt, hw, by omega, rfl, t5, ?_, rfl⟩
      simp only [upd, ↓reduceIte]
      rw [QN (by omega)]
     ·have hjl : j = t.uses.length := by omega
      rw [hjl, List.drop_length] at hw
      simp only [Yr, ded] at hw
      repeat (first | (((with_reducible refine Qa fun K E hK hE => ?_)); simp -implicitDefEqProofs only [Qe, Qf, OpW, aop, AS.ev, ↓reduceIte, aBin, aLen, goInt, un29, t0, t5, t6, hlt, seval]) | (with_reducible (first | refine Qc fun K hK => ?_ | refine Qj ?_ | refine QA ?_ | refine Qb ?_ | refine Qu ?_ | refine Qv ?_)) | ((with_reducible refine hK _ ?_); clear hK) | (clear hK; (with_reducible refine hK _ ?_); clear hK) | (refine Qg rfl ?_; simp only [↓reduceIte, Qpc]))
      simp only [QD, Ql, Qr, upd, ↓reduceIte, Qpe, Qpi]
      exact X5 V.len V.old (.keep (.sl 1 _ _ (XW _ _) (fun b hb => by cases hb; have := V.lt; omega))) ⟨by rw [hw], by rw [hw]⟩
    ·rw [hI]
     exact ⟨0, _, _, by omega, Nat.zero_le _, hed, hlen', rfl, rfl, rfl, rfl⟩
   ·have hed : ded u t.vars = ded (u ++ [t.int]) (Yr (t.uses.drop 0)) := by rw [e, hus]; exact if_neg hmem
    have hlen' : (u ++ [t.int]).length + ndsL (t.uses.drop 0) ≤ 1000000 := by rw [hus, List.length_append]; simp only [List.drop_nil, ndsL, List.length_singleton]; omega
    rw [decide_eq_false hmem] at ch
    have hb1 : u.length + 1 ≤ maxLen := by simp only [maxLen]; omega
    have hb2 : (u.length + 1) * 8 ≤ 140737488355328 := by omega
    refine Qh Tryz.func46 rfl Tryz.call46 Tryz.ntmps46 (congrArg Array.toList Tryz.results46) (by simp) ?_
    repeat (first | ((first | (with_reducible (first | refine Qa fun K E hK hE => ?_ | refine Qk fun K E hK hE => ?_ | refine Qp ca ?_ | refine Qp ch ?_))); simp -implicitDefEqProofs only [Qe, Qf, OpW, QJ, aop, undef, AS.ev, Qy, AV.Qot, ↓reduceIte, Qo, QB, QC, aBin, QM, Xh, XH, ti3, zi3, ti41, Q0, Xe, ei49, ai49, b1, hm, gk, gt, st, hb1, hb2, seval]) | (with_reducible (first | refine Qc fun K hK => ?_ | refine Qi ?_ | refine Qb ?_)) | ((with_reducible refine hK _ ?_); clear hK) | (refine Qg rfl ?_; simp only [↓reduceIte]))
    obtain ⟨I, hI⟩ : ∃ I : Nat → AS → Prop, I = fun m' s => ∃ (j : Nat) (v : List Int) (M : AH), m' = t.uses.length - j ∧ j ≤ t.uses.length ∧ ded u t.vars = ded v (Yr (t.uses.drop j)) ∧ v.length + ndsL (t.uses.drop j) ≤ 1000000 ∧ s.tm 0 = .sl 1 (ints v) (some k) ∧ s.tm 5 = .sl 4 (avs t.uses) none ∧ s.tm 6 = .i j ∧ s.h = H v.length ++ (L ++ M) := ⟨_, rfl⟩; refine QI I ?_ (m := t.uses.length) ?_
    ·intro m' s hs; rw [hI] at hs; obtain ⟨tm, hp⟩ := s; dsimp only at hs; obtain ⟨j, v, M, rfl, hj, hw, hv, t0, t5, t6, rfl⟩ := hs
     by_cases hlt : j < t.uses.length
     ·rw [List.drop_eq_getElem_cons hlt] at hw hv
      simp only [Yr, YY] at hw
      simp only [ndsL] at hv
      have hcc := fun L => Zb V n (by omega) t.uses[j] v L (Nat.le_trans (XT hlt) (by omega)) (by omega)
      have hdl := Zw v (t.uses[j]).vars
      have hvl := T.Qoz t.uses[j]
      repeat (first | ((first | (with_reducible (first | refine Qa fun K E hK hE => ?_ | refine Qk fun K E hK hE => ?_ | refine FunW.ret (FunW.call (hcc _)) ?_))); simp -implicitDefEqProofs only [Qe, Qf, OpW, QJ, aop, AS.ev, ↓reduceIte, QB, QC, Qt, aBin, aLen, goInt, ei29, un29, ti41, t0, t5, t6, hlt, Xd hlt, seval]) | (with_reducible (first | refine Qc fun K hK => ?_ | refine Qi ?_ | refine Qm ?_ | refine Qb ?_ | refine Qn ?_)) | ((with_reducible refine hK _ ?_); clear hK) | (refine Qg rfl ?_; simp only [↓reduceIte]))
      refine QW.mk (m' := t.uses.length - (j + 1)) (by omega) ?_
      rw [hI]
      refine ⟨j + 1, _, _, rfl, hlt, hw, by omega, rfl, t5, ?_, rfl⟩
      simp only [upd, ↓reduceIte]
      rw [QN (by omega)]
     ·have hjl : j = t.uses.length := by omega
      rw [hjl, List.drop_length] at hw
      simp only [Yr, ded] at hw
      repeat (first | (((with_reducible refine Qa fun K E hK hE => ?_)); simp -implicitDefEqProofs only [Qe, Qf, OpW, aop, AS.ev, ↓reduceIte, aBin, aLen, goInt, un29, t0, t5, t6, hlt, seval]) | (with_reducible (first | refine Qc fun K hK => ?_ | refine Qj ?_ | refine QA ?_ | refine Qb ?_ | refine Qu ?_ | refine Qv ?_)) | ((with_reducible refine hK _ ?_); clear hK) | (clear hK; (with_reducible refine hK _ ?_); clear hK) | (refine Qg rfl ?_; simp only [↓reduceIte, Qpc]))
      simp only [QD, Ql, Qr, upd, ↓reduceIte, Qpe, Qpi]
      exact X5 V.len V.old (.keep (.sl 1 _ _ (XW _ _) (fun b hb => by cases hb; have := V.lt; omega))) ⟨by rw [hw], by rw [hw]⟩
    ·rw [hI]
     exact ⟨0, _, _, by omega, Nat.zero_le _, hed, hlen', by rw [XB, Qhz]; rfl, rfl, rfl, by rw [List.length_append]; rfl⟩
  ·have b1 : (t.kind == 1) = false := by simpa using h1
   rw [if_neg h1] at e
   have hed : ded u t.vars = ded u (Yr (t.uses.drop 0)) := by rw [e, List.drop_zero]
   have hlen' : u.length + ndsL (t.uses.drop 0) ≤ 1000000 := by rw [List.drop_zero]; omega
   refine Qh Tryz.func46 rfl Tryz.call46 Tryz.ntmps46 (congrArg Array.toList Tryz.results46) (by simp) ?_
   repeat (first | ((first | (with_reducible (first | refine Qa fun K E hK hE => ?_ | refine Qp ca ?_))); simp -implicitDefEqProofs only [Qe, Qf, OpW, QJ, aop, undef, AS.ev, Qy, AV.Qot, ↓reduceIte, Qo, QB, QC, aBin, ti3, ti41, Q0, b1, hm, gk, seval]) | (with_reducible (first | refine Qc fun K hK => ?_ | refine Qi ?_ | refine Qm ?_ | refine Qb ?_)) | ((with_reducible refine hK _ ?_); clear hK) | (refine Qg rfl ?_; simp only [↓reduceIte, Qpc]))
   obtain ⟨I, hI⟩ : ∃ I : Nat → AS → Prop, I = fun m' s => ∃ (j : Nat) (v : List Int) (M : AH), m' = t.uses.length - j ∧ j ≤ t.uses.length ∧ ded u t.vars = ded v (Yr (t.uses.drop j)) ∧ v.length + ndsL (t.uses.drop j) ≤ 1000000 ∧ s.tm 0 = .sl 1 (ints v) (some k) ∧ s.tm 5 = .sl 4 (avs t.uses) none ∧ s.tm 6 = .i j ∧ s.h = H v.length ++ (L ++ M) := ⟨_, rfl⟩; refine QI I ?_ (m := t.uses.length) ?_
   ·intro m' s hs; rw [hI] at hs; obtain ⟨tm, hp⟩ := s; dsimp only at hs; obtain ⟨j, v, M, rfl, hj, hw, hv, t0, t5, t6, rfl⟩ := hs
    by_cases hlt : j < t.uses.length
    ·rw [List.drop_eq_getElem_cons hlt] at hw hv
     simp only [Yr, YY] at hw
     simp only [ndsL] at hv
     have hcc := fun L => Zb V n (by omega) t.uses[j] v L (Nat.le_trans (XT hlt) (by omega)) (by omega)
     have hdl := Zw v (t.uses[j]).vars
     have hvl := T.Qoz t.uses[j]
     repeat (first | ((first | (with_reducible (first | refine Qa fun K E hK hE => ?_ | refine Qk fun K E hK hE => ?_ | refine FunW.ret (FunW.call (hcc _)) ?_))); simp -implicitDefEqProofs only [Qe, Qf, OpW, QJ, aop, AS.ev, ↓reduceIte, QB, QC, Qt, aBin, aLen, goInt, ei29, un29, ti41, t0, t5, t6, hlt, Xd hlt, seval]) | (with_reducible (first | refine Qc fun K hK => ?_ | refine Qi ?_ | refine Qm ?_ | refine Qb ?_ | refine Qn ?_)) | ((with_reducible refine hK _ ?_); clear hK) | (refine Qg rfl ?_; simp only [↓reduceIte]))
     refine QW.mk (m' := t.uses.length - (j + 1)) (by omega) ?_
     rw [hI]
     refine ⟨j + 1, _, _, rfl, hlt, hw, by omega, rfl, t5, ?_, rfl⟩
     simp only [upd, ↓reduceIte]
     rw [QN (by omega)]
    ·have hjl : j = t.uses.length := by omega
     rw [hjl, List.drop_length] at hw
     simp only [Yr, ded] at hw
     repeat (first | (((with_reducible refine Qa fun K E hK hE => ?_)); simp -implicitDefEqProofs only [Qe, Qf, OpW, aop, AS.ev, ↓reduceIte, aBin, aLen, goInt, un29, t0, t5, t6, hlt, seval]) | (with_reducible (first | refine Qc fun K hK => ?_ | refine Qj ?_ | refine QA ?_ | refine Qb ?_ | refine Qu ?_ | refine Qv ?_)) | ((with_reducible refine hK _ ?_); clear hK) | (clear hK; (with_reducible refine hK _ ?_); clear hK) | (refine Qg rfl ?_; simp only [↓reduceIte, Qpc]))
     simp only [QD, Ql, Qr, upd, ↓reduceIte, Qpe, Qpi]
     exact X5 V.len V.old (.keep (.sl 1 _ _ (XW _ _) (fun b hb => by cases hb; have := V.lt; omega))) ⟨by rw [hw], by rw [hw]⟩
   ·rw [hI]
    exact ⟨0, _, _, by omega, Nat.zero_le _, hed, hlen', rfl, rfl, rfl, rfl⟩
theorem Qgl (h : AH) (e s : Nat) : TokOk (fun n => h ++ [.grow e s n]) (h.length + 1) h.length e s where
 len := fun n => by simp
 lt := by omega
 get := fun n => by rw [QeX]; rfl
 set := fun n n' => by rw [Qic]; rfl
theorem Qdy (l : List T) (hn : ndsL l ≤ 1000000) : Pure Tryz.prog 18 [.sl 4 (avs l) none] (.sl 1 (ints (ded [] (Yr l))) none) := by
 intro h
 have hll := QY l
 refine Qh Tryz.func18 rfl Tryz.call18 Tryz.ntmps18 (congrArg Array.toList Tryz.results18) (by simp) ?_
 repeat (first | (((with_reducible refine Qa fun K E hK hE => ?_)); simp -implicitDefEqProofs only [Qe, Qf, OpW, aop, AS.ev, Nat.reduceLT]) | (with_reducible (first | refine Qc fun K hK => ?_ | refine Qi ?_)) | ((with_reducible refine hK _ ?_); clear hK))
 refine XG 3 3 1 rfl ?_
 obtain ⟨I, hI⟩ : ∃ I : Nat → AS → Prop, I = fun m' s => ∃ (j : Nat) (v : List Int) (M : AH), m' = l.length - j ∧ j ≤ l.length ∧ ded [] (Yr l) = ded v (Yr (l.drop j)) ∧ v.length + ndsL (l.drop j) ≤ 1000000 ∧ s.tm 0 = .sl 4 (avs l) none ∧ s.tm 3 = .sl 1 (ints v) (some h.length) ∧ s.tm 4 = .i j ∧ s.h = h ++ ([.grow 3 1 v.length] ++ M) := ⟨_, rfl⟩; refine QI I ?_ (m := l.length) ?_
 ·intro m' s hs; rw [hI] at hs; obtain ⟨tm, hp⟩ := s; dsimp only at hs; obtain ⟨j, v, M, rfl, hj, hw, hv, t0, t3, t4, rfl⟩ := hs
  by_cases hlt : j < l.length
  ·rw [List.drop_eq_getElem_cons hlt] at hw hv
   simp only [Yr, YY] at hw
   simp only [ndsL] at hv
   have hcc := fun L => Zb (Qgl h 3 1) 1000000 (Nat.le_refl _) l[j] v L (Nat.le_trans (XT hlt) (by omega)) (by omega)
   simp only [List.append_assoc, QpA, Qpz] at hcc
   have hdl := Zw v (l[j]).vars
   have hvl := T.Qoz l[j]
   repeat (first | ((first | (with_reducible (first | refine Qa fun K E hK hE => ?_ | refine Qk fun K E hK hE => ?_ | refine FunW.ret (FunW.call (hcc _)) ?_))); simp -implicitDefEqProofs only [Qe, Qf, OpW, QJ, aop, AS.ev, ↓reduceIte, QB, QC, Qt, aBin, aLen, goInt, ei29, un29, ti41, t0, t3, t4, hlt, Xd hlt, seval]) | (with_reducible (first | refine Qc fun K hK => ?_ | refine Qi ?_ | refine Qm ?_ | refine Qb ?_ | refine Qn ?_)) | ((with_reducible refine hK _ ?_); clear hK) | (refine Qg rfl ?_; simp only [↓reduceIte]))
   refine QW.mk (m' := l.length - (j + 1)) (by omega) ?_
   rw [hI]
   refine ⟨j + 1, _, _, rfl, hlt, hw, by omega, t0, rfl, ?_, rfl⟩
   simp only [upd, ↓reduceIte]
   rw [QN (by omega)]
  ·have hjl : j = l.length := by omega
   rw [hjl, List.drop_length] at hw
   simp only [Yr, ded] at hw
   repeat (first | (((with_reducible refine Qa fun K E hK hE => ?_)); simp -implicitDefEqProofs only [Qe, Qf, OpW, aop, AS.ev, ↓reduceIte, aBin, aLen, goInt, un29, t0, t3, t4, hlt, seval]) | (with_reducible (first | refine Qc fun K hK => ?_ | refine Qj ?_ | refine QA ?_ | refine Qb ?_ | refine Qu ?_ | refine Qv ?_)) | ((with_reducible refine hK _ ?_); clear hK) | (clear hK; (with_reducible refine hK _ ?_); clear hK) | (refine Qg rfl ?_; simp only [↓reduceIte, Qpc]))
   simp only [QD, Ql, Qr, upd, ↓reduceIte, Qpe, Qpi]
   exact Qd (htake _ _) (.tok (XW _ _)) ⟨by rw [hw], rfl⟩
 ·rw [hI]
  exact ⟨0, [], [], by omega, Nat.zero_le _, rfl, by simpa using hn, rfl, rfl, rfl, rfl⟩
theorem QeN (t : T) (hn : t.nds ≤ 1000000) : Pure Tryz.prog 83 [t.av] (.sl 1 (ints (ded [] t.vars)) none) := by
 intro h
 refine Qh Tryz.func83 rfl Tryz.call83 Tryz.ntmps83 (congrArg Array.toList Tryz.results83) (by simp) ?_
 repeat (first | (((with_reducible refine Qa fun K E hK hE => ?_)); simp -implicitDefEqProofs only [Qe, Qf, OpW, aop, undef, AS.ev, Qy, AV.Qot, ↓reduceIte, QB, QC, ti41, seval]) | ((with_reducible refine hK _ ?_); clear hK))
 refine QgL 3 1 ?_
 have hcc := Zb (Qgl (h ++ [.cells 41 4 [t.av]]) 3 1) 1000000 (Nat.le_refl _) t [] [] hn (by simpa using hn)
 simp only [List.append_assoc, QpA, Qpz, QpB, Qld, Qpm] at hcc
 simp -implicitDefEqProofs only [Qe]
 simp only [hlen, Qpl, Qpm] at hcc
 repeat (first | (((with_reducible refine Zh hcc ?_)); simp -implicitDefEqProofs only [Qe, Qf, OpW, QJ, aop, AS.ev, ↓reduceIte, Nat.reduceLT]) | (with_reducible refine Qj ?_) | ((with_reducible refine hK _ ?_); clear hK))
 simp only [QD, Ql, Qr, upd, ↓reduceIte, Qpe, Qpi]; first | refine Qd (htake _ _) (.tok (XW _ _)) ⟨rfl, rfl⟩ | refine Qd List.take_length (.tok (XW _ _)) ⟨rfl, rfl⟩
end Go.Proofs.YtniljpjjnmkoaaaGreatDoor.Ab
set_option maxRecDepth 4000
namespace Go.Proofs.YtniljpjjnmkoaaaGreatDoor.Ab
open Go.Proofs
theorem Qj6 (s : List Int) (n : Int) : YO s n = (true, ded s [n]) := by simp only [YO, ded, ins]
theorem Qjp : ∀ (n : Nat) (l : List T), ndsL l ≤ n → ∀ s : List Int, walks YO s l = (true, ded s (Yr l)) := by
 intro n
 induction n with
 | zero =>
  intro l hl s
  cases l with
  | nil => rfl
  | cons t l => simp only [ndsL] at hl; have := T.Qow t; omega
 | succ n ih =>
  intro l hl s
  cases l with
  | nil => rfl
  | cons t l =>
   simp only [ndsL] at hl
   have hnd := T.Qow t
   have h1 : T.walk YO s t = (true, ded s t.vars) := by
    rw [T.walk_eq, T.QoS]
    split
    ·exact Qj6 _ _
    ·exact ih _ (by have := Zl t; omega) s
   simp only [walks, h1, ↓reduceIte, Yr, YY]
   exact ih l (by omega) _
theorem Qf0 (t : T) : XY t = ded [] t.vars := by
 rw [XY, Qjp _ [t] (Nat.le_refl _)]
 simp only [Yr, QpB]
theorem QiI (b : List (Int × T)) (v : Int) : (YB b v).isSome = bound b v := by
 induction b with
 | nil => rfl
 | cons x b ih =>
  simp only [YB, bound, List.any_cons]
  by_cases h : x.1 = v
  ·rw [if_pos h]; simp [h]
  ·rw [if_neg h, ih]
   have : (x.1 == v) = false := by simpa using h
   rw [this, Bool.false_or]; rfl
theorem Qey (b : List (Int × T)) (hb : b.length ≤ 1000000) (hn : ∀ x ∈ b, x.2.nds ≤ 1000000) : Pure Tryz.prog 43 [.sl 5 (bavs b) none] (.b (Z5 b b)) := by
 intro h
 refine Qh Tryz.func43 rfl Tryz.call43 Tryz.ntmps43 (congrArg Array.toList Tryz.results43) (by simp) ?_
 repeat (first | (((with_reducible refine Qa fun K E hK hE => ?_)); simp -implicitDefEqProofs only [Qe, Qf, OpW, aop, AS.ev, Nat.reduceLT]) | (with_reducible (first | refine Qc fun K hK => ?_ | refine Qi ?_)) | ((with_reducible refine hK _ ?_); clear hK))
 obtain ⟨I, hI⟩ : ∃ I : Nat → AS → Prop, I = fun m' s => ∃ (j : Nat) (L : AH), m' = b.length - j ∧ j ≤ b.length ∧ Z5 b b = Z5 b (b.drop j) ∧ s.tm 0 = .sl 5 (bavs b) none ∧ s.tm 3 = .i j ∧ s.h = h ++ L := ⟨_, rfl⟩; refine QI I ?_ (m := b.length) ?_
 ·have hO := hI
  intro m' s hs; rw [hI] at hs; obtain ⟨tm, hp⟩ := s; dsimp only at hs; obtain ⟨j, L, rfl, hj, hr2, t0, t3, rfl⟩ := hs
  by_cases hlt : j < b.length
  ·rw [List.drop_eq_getElem_cons hlt] at hr2
   have hnn : b[j].2.nds ≤ 1000000 := hn b[j] (List.getElem_mem hlt)
   have c2 := QeN b[j].2 hnn
   rw [← Qf0, T.QoD] at c2
   have hvl : (XY b[j].2).length ≤ 1000000 := Zi _ hnn
   repeat (first | ((first | (with_reducible (first | refine Qa fun K E hK hE => ?_ | refine Qp c2 ?_))); simp -implicitDefEqProofs only [Qe, Qf, OpW, QJ, aop, AS.ev, ↓reduceIte, Qo, QB, QC, Qt, aBin, aLen, goInt, ei23, un23, ti41, Zf, t0, t3, hlt, QL, Q3 hlt, QQ, Xj, seval]) | (with_reducible (first | refine Qc fun K hK => ?_ | refine Qi ?_ | refine Qm ?_ | refine Qb ?_)) | ((with_reducible refine hK _ ?_); clear hK) | (refine Qg rfl ?_; simp only [↓reduceIte]))
   obtain ⟨I, hI⟩ : ∃ I : Nat → AS → Prop, I = fun m' s => ∃ (k : Nat) (M : AH), m' = (XY b[j].2).length - k ∧ k ≤ (XY b[j].2).length ∧ ((XY b[j].2).all fun v => !bound b v) = (((XY b[j].2).drop k).all fun v => !bound b v) ∧ s.tm 0 = .sl 5 (bavs b) none ∧ s.tm 3 = .i j ∧ s.tm 4 = .sl 1 (ints (XY b[j].2)) none ∧ s.tm 5 = .i k ∧ s.h = h ++ M := ⟨_, rfl⟩; refine QI I ?_ (m := (XY b[j].2).length) ?_
   ·intro m' s hs; rw [hI] at hs; obtain ⟨tm, hp⟩ := s; dsimp only at hs; obtain ⟨k, M, rfl, hk, hr3, t0, t3, t4, t5, rfl⟩ := hs
    by_cases hkl : k < (XY b[j].2).length
    ·rw [List.drop_eq_getElem_cons hkl, List.all_cons] at hr3
     have cl := QaN b (XY b[j].2)[k] hb
     rw [QiI] at cl
     cases hbv : bound b (XY b[j].2)[k] with
     | true =>
      rw [hbv] at cl
      have e2 : Z5 b b = false := by
       rw [hr2, Z5, List.all_cons]
       rw [hr3, hbv]; rfl
      repeat (first | ((first | (with_reducible (first | refine Qa fun K E hK hE => ?_ | refine Qp cl ?_))); simp -implicitDefEqProofs only [Qe, Qf, OpW, QJ, aop, undef, AS.ev, AV.Qot, ↓reduceIte, QB, QC, QO, QF, Qt, aBin, Xk, aLen, goInt, ti3, ti41, zi41, ei49, un49, t0, t4, t5, hkl, XQ hkl, seval]) | (with_reducible (first | refine Qc fun K hK => ?_ | refine Qi ?_ | refine Qj ?_ | refine Qm ?_ | refine Qb ?_ | refine Qq ?_ | refine Qs ?_)) | ((with_reducible refine hK _ ?_); clear hK) | (refine Qg rfl ?_; simp only [↓reduceIte]))
      simp only [QD, Ql, Qr, upd, ↓reduceIte, Qpe, Qpi]; first | refine Qd (htake _ _) (.keep (.v _)) ⟨by rw [e2], rfl⟩ | refine Qd List.take_length (.keep (.v _)) ⟨by rw [e2], rfl⟩
     | false =>
      rw [hbv] at cl
      repeat (first | ((first | (with_reducible (first | refine Qa fun K E hK hE => ?_ | refine Qk fun K E hK hE => ?_ | refine Qp cl ?_))); simp -implicitDefEqProofs only [Qe, Qf, OpW, QJ, aop, undef, AS.ev, AV.Qot, ↓reduceIte, QB, QC, QO, QF, Qt, aBin, Xk, aLen, goInt, ti3, ti41, zi41, ei49, un49, t0, t4, t5, hkl, XQ hkl, seval]) | (with_reducible (first | refine Qc fun K hK => ?_ | refine Qi ?_ | refine Qm ?_ | refine Qb ?_ | refine Qn ?_)) | ((with_reducible refine hK _ ?_); clear hK) | (refine Qg rfl ?_; simp only [↓reduceIte, Qpc]))
      refine QW.mk (m' := (XY b[j].2).length - (k + 1)) (by omega) ?_
      rw [hI]
      refine ⟨k + 1, _, rfl, hkl, ?_, t0, t3, t4, ?_, rfl⟩
      ·rw [hr3, hbv]; rfl
      ·simp only [upd, ↓reduceIte]
       rw [QN (by omega)]
    ·have hke : k = (XY b[j].2).length := by omega
     rw [hke, List.drop_length] at hr3
     repeat (first | ((first | (with_reducible (first | refine Qa fun K E hK hE => ?_ | refine Qk fun K E hK hE => ?_))); simp -implicitDefEqProofs only [Qe, Qf, OpW, aop, AS.ev, ↓reduceIte, aBin, aLen, goInt, un49, t3, t4, t5, hkl, seval]) | (with_reducible (first | refine Qc fun K hK => ?_ | refine QA ?_ | refine Qb ?_ | refine Qu ?_ | refine Qn ?_ | refine Qv ?_)) | ((with_reducible refine hK _ ?_); clear hK) | (clear hK; (with_reducible refine hK _ ?_); clear hK) | (refine Qg rfl ?_; simp only [↓reduceIte, Qpc]))
     refine QW.mk (m' := b.length - (j + 1)) (by omega) ?_
     rw [hO]
     refine ⟨j + 1, M, rfl, hlt, ?_, t0, ?_, rfl⟩
     ·rw [hr2, Z5, List.all_cons, hr3]; rfl
     ·simp only [upd, ↓reduceIte]
      rw [QN (by omega)]
   ·rw [hI]
    exact ⟨0, _, by omega, Nat.zero_le _, rfl, t0, t3, rfl, rfl, rfl⟩
  ·have hjl : j = b.length := by omega
   rw [hjl, List.drop_length] at hr2
   repeat (first | (((with_reducible refine Qa fun K E hK hE => ?_)); simp -implicitDefEqProofs only [Qe, Qf, OpW, aop, AS.ev, ↓reduceIte, aBin, aLen, goInt, un23, t0, t3, hlt, QL, seval]) | (with_reducible (first | refine Qc fun K hK => ?_ | refine Qj ?_ | refine QA ?_ | refine Qb ?_ | refine Qu ?_ | refine Qv ?_)) | ((with_reducible refine hK _ ?_); clear hK) | (clear hK; (with_reducible refine hK _ ?_); clear hK) | (refine Qg rfl ?_; simp only [↓reduceIte, Qpc]))
   simp only [QD, Ql, Qr, upd, ↓reduceIte, Qpe, Qpi]; first | refine Qd (htake _ _) (.keep (.v _)) ⟨by rw [hr2]; rfl, rfl⟩ | refine Qd List.take_length (.keep (.v _)) ⟨by rw [hr2]; rfl, rfl⟩
 ·rw [hI]
  exact ⟨0, [], by omega, Nat.zero_le _, rfl, rfl, rfl, by simp⟩
theorem QaP (b : List (Int × T)) (hb : b.length ≤ 1000000) (hn : ∀ x ∈ b, x.2.nds ≤ 1000000) (ho : ∀ x ∈ b, i64 x.1 ∧ x.2.ok) : Pure Tryz.prog 14 [.sl 5 (bavs b) none] (.b (XF b)) := by
 intro h
 have ca := Qey b hb hn
 refine Qh Tryz.func14 rfl Tryz.call14 Tryz.ntmps14 (congrArg Array.toList Tryz.results14) (by simp) ?_
 repeat (first | (((with_reducible refine Qa fun K E hK hE => ?_)); simp -implicitDefEqProofs only [Qe, Qf, OpW, aop, AS.ev, Nat.reduceLT]) | (with_reducible (first | refine Qc fun K hK => ?_ | refine Qi ?_)) | ((with_reducible refine hK _ ?_); clear hK))
 obtain ⟨I, hI⟩ : ∃ I : Nat → AS → Prop, I = fun m' s => ∃ (j : Nat) (L : AH), m' = b.length - j ∧ j ≤ b.length ∧ ascF none b = ascF (Qcj b j) (b.drop j) ∧ s.tm 0 = .sl 5 (bavs b) none ∧ s.tm 3 = .i j ∧ s.h = h ++ L := ⟨_, rfl⟩; refine QI I ?_ (m := b.length) ?_
 ·intro m' s hs; rw [hI] at hs; obtain ⟨tm, hp⟩ := s; dsimp only at hs; obtain ⟨j, L, rfl, hj, hr, t0, t3, rfl⟩ := hs
  by_cases hlt : j < b.length
  ·rw [List.drop_eq_getElem_cons hlt] at hr
   have hbj := ho b[j] (List.getElem_mem hlt)
   have hnn : b[j].2.nds ≤ 1000000 := hn b[j] (List.getElem_mem hlt)
   have c1 : Pure Tryz.prog 42 [(b[j].2).av] (.b b[j].2.QoA) := QaR b[j].2 hnn hbj.2
   rw [T.QoD] at c1
   have hpv : Qcj b (j + 1) = some b[j].1 := by simp only [Qcj]; rw [List.getD_eq_getElem?_getD, List.getElem?_eq_getElem hlt]; rfl
   by_cases k1 : b[j].1 < 0
   ·have e : ascF none b = false := by rw [hr]; simp [ascF, k1]
    repeat (first | (((with_reducible refine Qa fun K E hK hE => ?_)); simp -implicitDefEqProofs only [Qe, Qf, OpW, aop, AS.ev, ↓reduceIte, aBin, aLen, goInt, un23, t0, t3, hlt, QL, seval]) | (with_reducible (first | refine Qc fun K hK => ?_ | refine Qi ?_ | refine Qm ?_ | refine Qb ?_)) | ((with_reducible refine hK _ ?_); clear hK) | (refine Qg rfl ?_; simp only [↓reduceIte]))
    first | refine Qw (id := 4) [(0, 0), (1, 0), (2, 0), (3, 0), (4, 0), (5, 0), (6, 0), (7, 0), (8, 0), (9, 0), (10, 0), (11, 0), (12, 0), (13, 0), (14, 0), (15, 0), (16, 0), (17, 0), (18, 0), (19, 0), (20, 0), (21, 0), (22, 0), (23, 0), (24, 0), (25, 0), (26, 0), (27, 0), (28, 0), (29, 0), (30, 0), (31, 0), (32, 0), (33, 0), (34, 0), (35, 0), (36, 0), (37, 0), (38, 1), (39, 0), (40, 0)] mixed (by kernel_rfl) fun K hK => ?_ | refine QG (id := 4) [(0, 0), (1, 0), (2, 0), (3, 0), (4, 0), (5, 0), (6, 0), (7, 0), (8, 0), (9, 0), (10, 0), (11, 0), (12, 0), (13, 0), (14, 0), (15, 0), (16, 0), (17, 0), (18, 0), (19, 0), (20, 0), (21, 0), (22, 0), (23, 0), (24, 0), (25, 0), (26, 0), (27, 0), (28, 0), (29, 0), (30, 0), (31, 0), (32, 0), (33, 0), (34, 0), (35, 0), (36, 0), (37, 0), (38, 1), (39, 0), (40, 0)] mixed (by kernel_rfl) fun K hK => ?_
    (try simp only [Qph]); refine QS 8 (fun K1 hK1 => ?_); simp -implicitDefEqProofs only [Qe, Qf, aop, undef, AS.ev, ↓reduceIte, Qo, QB, QC, Qt, aBin, ti3, ei23, XE, t0, t3, hlt, QL, Q3 hlt, QQ, k1, seval]; refine hK1 _ ?_; clear hK1
    (try simp only [Qph, Qpp]); refine QS 8 (fun K1 hK1 => ?_); simp -implicitDefEqProofs only [Qe, Qf, aop, undef, AS.ev, ↓reduceIte, seval]; refine hK1 _ ?_; clear hK1
    (try simp only [Qph, Qpp]); refine QS 8 (fun K1 hK1 => ?_); simp -implicitDefEqProofs only [Qe, Qf, undef, ↓reduceIte, seval]; refine hK1 _ ?_; clear hK1
    (try simp only [Qph, Qpp]); refine QS 8 (fun K1 hK1 => ?_); simp -implicitDefEqProofs only [Qe, Qf, aop, undef, AS.ev, ↓reduceIte, seval]; refine hK1 _ ?_; clear hK1
    (try simp only [Qph, Qpp])
    simp -implicitDefEqProofs only [Qe, Qf, aop, undef, AS.ev, ↓reduceIte, seval]
    repeat (first | (((with_reducible refine Qa fun K E hK hE => ?_)); simp -implicitDefEqProofs only [Xb, Q7, Qf, OpW, aop, AS.ev, Xa, Xx, Nat.reduceLT]) | (with_reducible (first | refine Qj ?_ | refine Qb ?_ | refine Qq ?_ | refine Qs ?_)) | ((with_reducible refine hK _ ?_); clear hK) | (refine Qg rfl ?_; simp only [↓reduceIte]))
    simp only [QD, Ql, Qr, upd, ↓reduceIte, Qpe, Qpi]; first | refine Qd (htake _ _) (.keep (.v _)) ⟨by rw [XF, e]; rfl, rfl⟩ | refine Qd List.take_length (.keep (.v _)) ⟨by rw [XF, e]; rfl, rfl⟩
   by_cases k2 : b[j].1 > 1048576
   ·have e : ascF none b = false := by rw [hr]; simp [ascF, k2]
    repeat (first | (((with_reducible refine Qa fun K E hK hE => ?_)); simp -implicitDefEqProofs only [Qe, Qf, OpW, aop, AS.ev, ↓reduceIte, aBin, aLen, goInt, un23, t0, t3, hlt, QL, seval]) | (with_reducible (first | refine Qc fun K hK => ?_ | refine Qi ?_ | refine Qm ?_ | refine Qb ?_)) | ((with_reducible refine hK _ ?_); clear hK) | (refine Qg rfl ?_; simp only [↓reduceIte]))
    first | refine Qw (id := 4) [(0, 0), (1, 0), (2, 0), (3, 0), (4, 0), (5, 0), (6, 0), (7, 0), (8, 0), (9, 0), (10, 0), (11, 0), (12, 0), (13, 0), (14, 0), (15, 0), (16, 0), (17, 0), (18, 0), (19, 0), (20, 0), (21, 0), (22, 0), (23, 0), (24, 0), (25, 0), (26, 0), (27, 0), (28, 0), (29, 0), (30, 0), (31, 0), (32, 0), (33, 0), (34, 0), (35, 0), (36, 0), (37, 0), (38, 1), (39, 0), (40, 0)] mixed (by kernel_rfl) fun K hK => ?_ | refine QG (id := 4) [(0, 0), (1, 0), (2, 0), (3, 0), (4, 0), (5, 0), (6, 0), (7, 0), (8, 0), (9, 0), (10, 0), (11, 0), (12, 0), (13, 0), (14, 0), (15, 0), (16, 0), (17, 0), (18, 0), (19, 0), (20, 0), (21, 0), (22, 0), (23, 0), (24, 0), (25, 0), (26, 0), (27, 0), (28, 0), (29, 0), (30, 0), (31, 0), (32, 0), (33, 0), (34, 0), (35, 0), (36, 0), (37, 0), (38, 1), (39, 0), (40, 0)] mixed (by kernel_rfl) fun K hK => ?_
    (try simp only [Qph]); refine QS 8 (fun K1 hK1 => ?_); simp -implicitDefEqProofs only [Qe, Qf, aop, AS.ev, ↓reduceIte, Qo, QB, QC, Qt, aBin, ti3, ei23, XE, t0, t3, hlt, QL, Q3 hlt, QQ, k1, seval]; refine hK1 _ ?_; clear hK1
    (try simp only [Qph, Qpp]); refine QS 8 (fun K1 hK1 => ?_); simp -implicitDefEqProofs only [Qe, Qf, aop, undef, AS.ev, ↓reduceIte, Qo, QB, QC, Qt, aBin, ti3, ei23, XE, t3, hlt, QL, Q3 hlt, QQ, k2, seval]; refine hK1 _ ?_; clear hK1
    (try simp only [Qph, Qpp]); refine QS 8 (fun K1 hK1 => ?_); simp -implicitDefEqProofs only [Qe, Qf, undef, ↓reduceIte, seval]; refine hK1 _ ?_; clear hK1
    (try simp only [Qph, Qpp]); refine QS 8 (fun K1 hK1 => ?_); simp -implicitDefEqProofs only [Qe, Qf, aop, undef, AS.ev, ↓reduceIte, seval]; refine hK1 _ ?_; clear hK1
    (try simp only [Qph, Qpp])
    simp -implicitDefEqProofs only [Qe, Qf, aop, undef, AS.ev, ↓reduceIte, seval]
    repeat (first | (((with_reducible refine Qa fun K E hK hE => ?_)); simp -implicitDefEqProofs only [Xb, Q7, Qf, OpW, aop, AS.ev, Xa, Xx, Nat.reduceLT]) | (with_reducible (first | refine Qj ?_ | refine Qb ?_ | refine Qq ?_ | refine Qs ?_)) | ((with_reducible refine hK _ ?_); clear hK) | (refine Qg rfl ?_; simp only [↓reduceIte]))
    simp only [QD, Ql, Qr, upd, ↓reduceIte, Qpe, Qpi]; first | refine Qd (htake _ _) (.keep (.v _)) ⟨by rw [XF, e]; rfl, rfl⟩ | refine Qd List.take_length (.keep (.v _)) ⟨by rw [XF, e]; rfl, rfl⟩
   by_cases hj0 : j = 0
   ·have hjz : ¬ ((j : Int) > 0) := by omega
    have hprev : Qcj b j = none := by rw [hj0]; rfl
    rw [hprev] at hr
    cases hrt : b[j].2.QoA with
    | false =>
     rw [hrt] at c1
     have e : ascF none b = false := by rw [hr]; simp [ascF, hrt]
     repeat (first | (((with_reducible refine Qa fun K E hK hE => ?_)); simp -implicitDefEqProofs only [Qe, Qf, OpW, aop, AS.ev, ↓reduceIte, aBin, aLen, goInt, un23, t0, t3, hlt, QL, seval]) | (with_reducible (first | refine Qc fun K hK => ?_ | refine Qi ?_ | refine Qm ?_ | refine Qb ?_)) | ((with_reducible refine hK _ ?_); clear hK) | (refine Qg rfl ?_; simp only [↓reduceIte]))
     first | refine Qw (id := 4) [(0, 0), (1, 0), (2, 0), (3, 0), (4, 0), (5, 0), (6, 0), (7, 0), (8, 0), (9, 0), (10, 0), (11, 0), (12, 0), (13, 0), (14, 0), (15, 0), (16, 0), (17, 0), (18, 0), (19, 0), (20, 0), (21, 0), (22, 0), (23, 0), (24, 0), (25, 0), (26, 0), (27, 0), (28, 0), (29, 0), (30, 0), (31, 0), (32, 0), (33, 0), (34, 0), (35, 0), (36, 0), (37, 0), (38, 1), (39, 0), (40, 0)] mixed (by kernel_rfl) fun K hK => ?_ | refine QG (id := 4) [(0, 0), (1, 0), (2, 0), (3, 0), (4, 0), (5, 0), (6, 0), (7, 0), (8, 0), (9, 0), (10, 0), (11, 0), (12, 0), (13, 0), (14, 0), (15, 0), (16, 0), (17, 0), (18, 0), (19, 0), (20, 0), (21, 0), (22, 0), (23, 0), (24, 0), (25, 0), (26, 0), (27, 0), (28, 0), (29, 0), (30, 0), (31, 0), (32, 0), (33, 0), (34, 0), (35, 0), (36, 0), (37, 0), (38, 1), (39, 0), (40, 0)] mixed (by kernel_rfl) fun K hK => ?_
     (try simp only [Qph]); refine QS 8 (fun K1 hK1 => ?_); simp -implicitDefEqProofs only [Qe, Qf, aop, AS.ev, ↓reduceIte, Qo, QB, QC, Qt, aBin, ti3, ei23, XE, t0, t3, hlt, QL, Q3 hlt, QQ, k1, seval]; refine hK1 _ ?_; clear hK1
     (try simp only [Qph, Qpp]); refine QS 8 (fun K1 hK1 => ?_); simp -implicitDefEqProofs only [Qe, Qf, aop, AS.ev, ↓reduceIte, Qo, QB, QC, Qt, aBin, ti3, ei23, XE, t3, hlt, QL, Q3 hlt, QQ, k2, seval]; refine hK1 _ ?_; clear hK1
     (try simp only [Qph, Qpp]); refine QS 8 (fun K1 hK1 => ?_); simp -implicitDefEqProofs only [Qe, Qf, aop, undef, AS.ev, ↓reduceIte, aBin, hjz, seval]; refine hK1 _ ?_; clear hK1
     (try simp only [Qph, Qpp]); refine QS 8 (fun K1 hK1 => ?_); simp -implicitDefEqProofs only [Qe, Qf, aop, undef, AS.ev, ↓reduceIte, seval]; refine hK1 _ ?_; clear hK1
     (try simp only [Qph, Qpp])
     simp -implicitDefEqProofs only [Qe, Qf, aop, AS.ev, ↓reduceIte, Qo, QB, QC, Qt, ei23, ti41, Zf, t0, t3, hlt, QL, Q3 hlt, QQ, Xj, seval]
     repeat (first | ((first | (with_reducible (first | refine Qa fun K E hK hE => ?_ | refine Qz c1 ?_))); simp -implicitDefEqProofs only [Qe, Qf, OpW, aop, AS.ev, ↓reduceIte, seval]) | (with_reducible (first | refine Qj ?_ | refine Qb ?_ | refine Qq ?_ | refine Qs ?_)) | ((with_reducible refine hK _ ?_); clear hK) | (refine Qg rfl ?_; simp only [↓reduceIte]))
     simp only [QD, Ql, Qr, upd, ↓reduceIte, Qpe, Qpi]; first | refine Qd (htake _ _) (.keep (.v _)) ⟨by rw [XF, e]; rfl, rfl⟩ | refine Qd List.take_length (.keep (.v _)) ⟨by rw [XF, e]; rfl, rfl⟩
    | true =>
     rw [hrt] at c1
     repeat (first | (((with_reducible refine Qa fun K E hK hE => ?_)); simp -implicitDefEqProofs only [Qe, Qf, OpW, aop, AS.ev, ↓reduceIte, aBin, aLen, goInt, un23, t0, t3, hlt, QL, seval]) | (with_reducible (first | refine Qc fun K hK => ?_ | refine Qi ?_ | refine Qm ?_ | refine Qb ?_)) | ((with_reducible refine hK _ ?_); clear hK) | (refine Qg rfl ?_; simp only [↓reduceIte]))
     first | refine Qw (id := 4) [(0, 0), (1, 0), (2, 0), (3, 0), (4, 0), (5, 0), (6, 0), (7, 0), (8, 0), (9, 0), (10, 0), (11, 0), (12, 0), (13, 0), (14, 0), (15, 0), (16, 0), (17, 0), (18, 0), (19, 0), (20, 0), (21, 0), (22, 0), (23, 0), (24, 0), (25, 0), (26, 0), (27, 0), (28, 0), (29, 0), (30, 0), (31, 0), (32, 0), (33, 0), (34, 0), (35, 0), (36, 0), (37, 0), (38, 1), (39, 0), (40, 0)] mixed (by kernel_rfl) fun K hK => ?_ | refine QG (id := 4) [(0, 0), (1, 0), (2, 0), (3, 0), (4, 0), (5, 0), (6, 0), (7, 0), (8, 0), (9, 0), (10, 0), (11, 0), (12, 0), (13, 0), (14, 0), (15, 0), (16, 0), (17, 0), (18, 0), (19, 0), (20, 0), (21, 0), (22, 0), (23, 0), (24, 0), (25, 0), (26, 0), (27, 0), (28, 0), (29, 0), (30, 0), (31, 0), (32, 0), (33, 0), (34, 0), (35, 0), (36, 0), (37, 0), (38, 1), (39, 0), (40, 0)] mixed (by kernel_rfl) fun K hK => ?_
     (try simp only [Qph]); refine QS 8 (fun K1 hK1 => ?_); simp -implicitDefEqProofs only [Qe, Qf, aop, AS.ev, ↓reduceIte, Qo, QB, QC, Qt, aBin, ti3, ei23, XE, t0, t3, hlt, QL, Q3 hlt, QQ, k1, seval]; refine hK1 _ ?_; clear hK1
     (try simp only [Qph, Qpp]); refine QS 8 (fun K1 hK1 => ?_); simp -implicitDefEqProofs only [Qe, Qf, aop, AS.ev, ↓reduceIte, Qo, QB, QC, Qt, aBin, ti3, ei23, XE, t3, hlt, QL, Q3 hlt, QQ, k2, seval]; refine hK1 _ ?_; clear hK1
     (try simp only [Qph, Qpp]); refine QS 8 (fun K1 hK1 => ?_); simp -implicitDefEqProofs only [Qe, Qf, aop, undef, AS.ev, ↓reduceIte, aBin, hjz, seval]; refine hK1 _ ?_; clear hK1
     (try simp only [Qph, Qpp]); refine QS 8 (fun K1 hK1 => ?_); simp -implicitDefEqProofs only [Qe, Qf, aop, undef, AS.ev, ↓reduceIte, seval]; refine hK1 _ ?_; clear hK1
     (try simp only [Qph, Qpp])
     simp -implicitDefEqProofs only [Qe, Qf, aop, AS.ev, ↓reduceIte, Qo, QB, QC, Qt, ei23, ti41, Zf, t0, t3, hlt, QL, Q3 hlt, QQ, Xj, seval]
     repeat (first | ((first | (with_reducible (first | refine Qk fun K E hK hE => ?_ | refine Qz c1 ?_))); simp -implicitDefEqProofs only [Qe, Qf, OpW, aop, AS.ev, ↓reduceIte, aBin, t3, seval]) | (with_reducible (first | refine Qm ?_ | refine Qb ?_ | refine Qn ?_)) | ((with_reducible refine hK _ ?_); clear hK) | (refine Qg rfl ?_; simp only [↓reduceIte, Qpc]))
     refine QW.mk (m' := b.length - (j + 1)) (by omega) ?_
     rw [hI]
     refine ⟨j + 1, L, rfl, hlt, ?_, t0, ?_, rfl⟩
     ·rw [hr, hpv]
      simp [ascF, k1, k2, hrt]
     ·simp only [upd, ↓reduceIte]
      rw [QN (by omega)]
   ·have hjz : (j : Int) > 0 := by omega
    have hw1 : IntKind.i64.wrap ((j : Int) - 1) = ((j - 1 : Nat) : Int) := by rw [XD (by omega)]; omega
    have hlt1 : j - 1 < b.length := by omega
    have hprev : Qcj b j = some (b[j - 1]).1 := by
     obtain ⟨i, rfl⟩ : ∃ i, j = i + 1 := ⟨j - 1, by omega⟩
     simp only [Qcj, Nat.add_sub_cancel]; rw [List.getD_eq_getElem?_getD, List.getElem?_eq_getElem (by omega)]; rfl
    rw [hprev] at hr
    by_cases k3 : b[j].1 ≤ (b[j - 1]).1
    ·have e : ascF none b = false := by rw [hr]; simp [ascF, k3]
     repeat (first | (((with_reducible refine Qa fun K E hK hE => ?_)); simp -implicitDefEqProofs only [Qe, Qf, OpW, aop, AS.ev, ↓reduceIte, aBin, aLen, goInt, un23, t0, t3, hlt, QL, seval]) | (with_reducible (first | refine Qc fun K hK => ?_ | refine Qi ?_ | refine Qm ?_ | refine Qb ?_)) | ((with_reducible refine hK _ ?_); clear hK) | (refine Qg rfl ?_; simp only [↓reduceIte]))
     first | refine Qw (id := 4) [(0, 0), (1, 0), (2, 0), (3, 0), (4, 0), (5, 0), (6, 0), (7, 0), (8, 0), (9, 0), (10, 0), (11, 0), (12, 0), (13, 0), (14, 0), (15, 0), (16, 0), (17, 0), (18, 0), (19, 0), (20, 0), (21, 0), (22, 0), (23, 0), (24, 0), (25, 0), (26, 0), (27, 0), (28, 0), (29, 0), (30, 0), (31, 0), (32, 0), (33, 0), (34, 0), (35, 0), (36, 0), (37, 0), (38, 1), (39, 0), (40, 0)] mixed (by kernel_rfl) fun K hK => ?_ | refine QG (id := 4) [(0, 0), (1, 0), (2, 0), (3, 0), (4, 0), (5, 0), (6, 0), (7, 0), (8, 0), (9, 0), (10, 0), (11, 0), (12, 0), (13, 0), (14, 0), (15, 0), (16, 0), (17, 0), (18, 0), (19, 0), (20, 0), (21, 0), (22, 0), (23, 0), (24, 0), (25, 0), (26, 0), (27, 0), (28, 0), (29, 0), (30, 0), (31, 0), (32, 0), (33, 0), (34, 0), (35, 0), (36, 0), (37, 0), (38, 1), (39, 0), (40, 0)] mixed (by kernel_rfl) fun K hK => ?_
     (try simp only [Qph]); refine QS 8 (fun K1 hK1 => ?_); simp -implicitDefEqProofs only [Qe, Qf, aop, AS.ev, ↓reduceIte, Qo, QB, QC, Qt, aBin, ti3, ei23, XE, t0, t3, hlt, QL, Q3 hlt, QQ, k1, seval]; refine hK1 _ ?_; clear hK1
     (try simp only [Qph, Qpp]); refine QS 8 (fun K1 hK1 => ?_); simp -implicitDefEqProofs only [Qe, Qf, aop, AS.ev, ↓reduceIte, Qo, QB, QC, Qt, aBin, ti3, ei23, XE, t3, hlt, QL, Q3 hlt, QQ, k2, seval]; refine hK1 _ ?_; clear hK1
     (try simp only [Qph, Qpp]); refine QS 8 (fun K1 hK1 => ?_); simp -implicitDefEqProofs only [Qe, Qf, aop, AS.ev, ↓reduceIte, Qo, QB, QC, Qt, aBin, ti3, ei23, XE, t0, t3, hlt, QL, Q3 hlt, QQ, hjz, seval]; refine hK1 _ ?_; clear hK1
     (try simp only [Qph, Qpp]); refine QS 8 (fun K1 hK1 => ?_); simp -implicitDefEqProofs only [Qe, Qf, aop, AS.ev, ↓reduceIte, Qo, QB, QC, Qt, aBin, ti3, ei23, XE, t3, QL, QQ, hw1, hlt1, Q3 hlt1, k3, seval]; refine hK1 _ ?_; clear hK1
     (try simp only [Qph, Qpp])
     simp -implicitDefEqProofs only [Qe, Qf, aop, undef, AS.ev, ↓reduceIte, seval]
     repeat (first | (((with_reducible refine Qa fun K E hK hE => ?_)); simp -implicitDefEqProofs only [Xb, Q7, Qf, OpW, aop, AS.ev, Xa, Xx, Nat.reduceLT]) | (with_reducible (first | refine Qj ?_ | refine Qb ?_ | refine Qq ?_ | refine Qs ?_)) | ((with_reducible refine hK _ ?_); clear hK) | (refine Qg rfl ?_; simp only [↓reduceIte]))
     simp only [QD, Ql, Qr, upd, ↓reduceIte, Qpe, Qpi]; first | refine Qd (htake _ _) (.keep (.v _)) ⟨by rw [XF, e]; rfl, rfl⟩ | refine Qd List.take_length (.keep (.v _)) ⟨by rw [XF, e]; rfl, rfl⟩
    cases hrt : b[j].2.QoA with
    | false =>
     rw [hrt] at c1
     have e : ascF none b = false := by rw [hr]; simp [ascF, hrt]
     repeat (first | (((with_reducible refine Qa fun K E hK hE => ?_)); simp -implicitDefEqProofs only [Qe, Qf, OpW, aop, AS.ev, ↓reduceIte, aBin, aLen, goInt, un23, t0, t3, hlt, QL, seval]) | (with_reducible (first | refine Qc fun K hK => ?_ | refine Qi ?_ | refine Qm ?_ | refine Qb ?_)) | ((with_reducible refine hK _ ?_); clear hK) | (refine Qg rfl ?_; simp only [↓reduceIte]))
     first | refine Qw (id := 4) [(0, 0), (1, 0), (2, 0), (3, 0), (4, 0), (5, 0), (6, 0), (7, 0), (8, 0), (9, 0), (10, 0), (11, 0), (12, 0), (13, 0), (14, 0), (15, 0), (16, 0), (17, 0), (18, 0), (19, 0), (20, 0), (21, 0), (22, 0), (23, 0), (24, 0), (25, 0), (26, 0), (27, 0), (28, 0), (29, 0), (30, 0), (31, 0), (32, 0), (33, 0), (34, 0), (35, 0), (36, 0), (37, 0), (38, 1), (39, 0), (40, 0)] mixed (by kernel_rfl) fun K hK => ?_ | refine QG (id := 4) [(0, 0), (1, 0), (2, 0), (3, 0), (4, 0), (5, 0), (6, 0), (7, 0), (8, 0), (9, 0), (10, 0), (11, 0), (12, 0), (13, 0), (14, 0), (15, 0), (16, 0), (17, 0), (18, 0), (19, 0), (20, 0), (21, 0), (22, 0), (23, 0), (24, 0), (25, 0), (26, 0), (27, 0), (28, 0), (29, 0), (30, 0), (31, 0), (32, 0), (33, 0), (34, 0), (35, 0), (36, 0), (37, 0), (38, 1), (39, 0), (40, 0)] mixed (by kernel_rfl) fun K hK => ?_
     (try simp only [Qph]); refine QS 8 (fun K1 hK1 => ?_); simp -implicitDefEqProofs only [Qe, Qf, aop, AS.ev, ↓reduceIte, Qo, QB, QC, Qt, aBin, ti3, ei23, XE, t0, t3, hlt, QL, Q3 hlt, QQ, k1, seval]; refine hK1 _ ?_; clear hK1
     (try simp only [Qph, Qpp]); refine QS 8 (fun K1 hK1 => ?_); simp -implicitDefEqProofs only [Qe, Qf, aop, AS.ev, ↓reduceIte, Qo, QB, QC, Qt, aBin, ti3, ei23, XE, t3, hlt, QL, Q3 hlt, QQ, k2, seval]; refine hK1 _ ?_; clear hK1
     (try simp only [Qph, Qpp]); refine QS 8 (fun K1 hK1 => ?_); simp -implicitDefEqProofs only [Qe, Qf, aop, AS.ev, ↓reduceIte, Qo, QB, QC, Qt, aBin, ti3, ei23, XE, t0, t3, hlt, QL, Q3 hlt, QQ, hjz, seval]; refine hK1 _ ?_; clear hK1
     (try simp only [Qph, Qpp]); refine QS 8 (fun K1 hK1 => ?_); simp -implicitDefEqProofs only [Qe, Qf, aop, AS.ev, ↓reduceIte, Qo, QB, QC, Qt, aBin, ti3, ei23, XE, t3, QL, QQ, hw1, hlt1, Q3 hlt1, k3, seval]; refine hK1 _ ?_; clear hK1
     (try simp only [Qph, Qpp])
     simp -implicitDefEqProofs only [Qe, Qf, aop, AS.ev, ↓reduceIte, Qo, QB, QC, Qt, ei23, ti41, Zf, t0, t3, hlt, QL, Q3 hlt, QQ, Xj, seval]
     repeat (first | ((first | (with_reducible (first | refine Qa fun K E hK hE => ?_ | refine Qz c1 ?_))); simp -implicitDefEqProofs only [Qe, Qf, OpW, aop, AS.ev, ↓reduceIte, seval]) | (with_reducible (first | refine Qj ?_ | refine Qb ?_ | refine Qq ?_ | refine Qs ?_)) | ((with_reducible refine hK _ ?_); clear hK) | (refine Qg rfl ?_; simp only [↓reduceIte]))
     simp only [QD, Ql, Qr, upd, ↓reduceIte, Qpe, Qpi]; first | refine Qd (htake _ _) (.keep (.v _)) ⟨by rw [XF, e]; rfl, rfl⟩ | refine Qd List.take_length (.keep (.v _)) ⟨by rw [XF, e]; rfl, rfl⟩
    | true =>
     rw [hrt] at c1
     repeat (first | (((with_reducible refine Qa fun K E hK hE => ?_)); simp -implicitDefEqProofs only [Qe, Qf, OpW, aop, AS.ev, ↓reduceIte, aBin, aLen, goInt, un23, t0, t3, hlt, QL, seval]) | (with_reducible (first | refine Qc fun K hK => ?_ | refine Qi ?_ | refine Qm ?_ | refine Qb ?_)) | ((with_reducible refine hK _ ?_); clear hK) | (refine Qg rfl ?_; simp only [↓reduceIte]))
     first | refine Qw (id := 4) [(0, 0), (1, 0), (2, 0), (3, 0), (4, 0), (5, 0), (6, 0), (7, 0), (8, 0), (9, 0), (10, 0), (11, 0), (12, 0), (13, 0), (14, 0), (15, 0), (16, 0), (17, 0), (18, 0), (19, 0), (20, 0), (21, 0), (22, 0), (23, 0), (24, 0), (25, 0), (26, 0), (27, 0), (28, 0), (29, 0), (30, 0), (31, 0), (32, 0), (33, 0), (34, 0), (35, 0), (36, 0), (37, 0), (38, 1), (39, 0), (40, 0)] mixed (by kernel_rfl) fun K hK => ?_ | refine QG (id := 4) [(0, 0), (1, 0), (2, 0), (3, 0), (4, 0), (5, 0), (6, 0), (7, 0), (8, 0), (9, 0), (10, 0), (11, 0), (12, 0), (13, 0), (14, 0), (15, 0), (16, 0), (17, 0), (18, 0), (19, 0), (20, 0), (21, 0), (22, 0), (23, 0), (24, 0), (25, 0), (26, 0), (27, 0), (28, 0), (29, 0), (30, 0), (31, 0), (32, 0), (33, 0), (34, 0), (35, 0), (36, 0), (37, 0), (38, 1), (39, 0), (40, 0)] mixed (by kernel_rfl) fun K hK => ?_
     (try simp only [Qph]); refine QS 8 (fun K1 hK1 => ?_); simp -implicitDefEqProofs only [Qe, Qf, aop, AS.ev, ↓reduceIte, Qo, QB, QC, Qt, aBin, ti3, ei23, XE, t0, t3, hlt, QL, Q3 hlt, QQ, k1, seval]; refine hK1 _ ?_; clear hK1
     (try simp only [Qph, Qpp]); refine QS 8 (fun K1 hK1 => ?_); simp -implicitDefEqProofs only [Qe, Qf, aop, AS.ev, ↓reduceIte, Qo, QB, QC, Qt, aBin, ti3, ei23, XE, t3, hlt, QL, Q3 hlt, QQ, k2, seval]; refine hK1 _ ?_; clear hK1
     (try simp only [Qph, Qpp]); refine QS 8 (fun K1 hK1 => ?_); simp -implicitDefEqProofs only [Qe, Qf, aop, AS.ev, ↓reduceIte, Qo, QB, QC, Qt, aBin, ti3, ei23, XE, t0, t3, hlt, QL, Q3 hlt, QQ, hjz, seval]; refine hK1 _ ?_; clear hK1
     (try simp only [Qph, Qpp]); refine QS 8 (fun K1 hK1 => ?_); simp -implicitDefEqProofs only [Qe, Qf, aop, AS.ev, ↓reduceIte, Qo, QB, QC, Qt, aBin, ti3, ei23, XE, t3, QL, QQ, hw1, hlt1, Q3 hlt1, k3, seval]; refine hK1 _ ?_; clear hK1
     (try simp only [Qph, Qpp])
     simp -implicitDefEqProofs only [Qe, Qf, aop, AS.ev, ↓reduceIte, Qo, QB, QC, Qt, ei23, ti41, Zf, t0, t3, hlt, QL, Q3 hlt, QQ, Xj, seval]
     repeat (first | ((first | (with_reducible (first | refine Qk fun K E hK hE => ?_ | refine Qz c1 ?_))); simp -implicitDefEqProofs only [Qe, Qf, OpW, aop, AS.ev, ↓reduceIte, aBin, t3, seval]) | (with_reducible (first | refine Qm ?_ | refine Qb ?_ | refine Qn ?_)) | ((with_reducible refine hK _ ?_); clear hK) | (refine Qg rfl ?_; simp only [↓reduceIte, Qpc]))
     refine QW.mk (m' := b.length - (j + 1)) (by omega) ?_
     rw [hI]
     refine ⟨j + 1, L, rfl, hlt, ?_, t0, ?_, rfl⟩
     ·rw [hr, hpv]
      simp [ascF, k1, k2, hrt, k3]
     ·simp only [upd, ↓reduceIte]
      rw [QN (by omega)]
  ·have hjl : j = b.length := by omega
   have e : ascF none b = true := by rw [hr, hjl, List.drop_length]; rfl
   repeat (first | ((first | (with_reducible (first | refine Qa fun K E hK hE => ?_ | refine Qp ca ?_))); simp -implicitDefEqProofs only [Qe, Qf, OpW, QJ, aop, AS.ev, ↓reduceIte, aBin, aLen, goInt, un23, t0, t3, hlt, QL, seval]) | (with_reducible (first | refine Qc fun K hK => ?_ | refine Qj ?_ | refine QA ?_ | refine Qb ?_ | refine Qu ?_ | refine Qv ?_)) | ((with_reducible refine hK _ ?_); clear hK) | (clear hK; (with_reducible refine hK _ ?_); clear hK) | (refine Qg rfl ?_; simp only [↓reduceIte, Qpc]))
   simp only [QD, Ql, Qr, upd, ↓reduceIte, Qpe, Qpi]; first | refine Qd (htake _ _) (.keep (.v _)) ⟨by rw [XF, e]; rfl, rfl⟩ | refine Qd List.take_length (.keep (.v _)) ⟨by rw [XF, e]; rfl, rfl⟩
 ·rw [hI]
  exact ⟨0, [], by omega, Nat.zero_le _, rfl, rfl, rfl, by simp⟩
end Go.Proofs.YtniljpjjnmkoaaaGreatDoor.Ab
set_option maxRecDepth 4000
namespace Go.Proofs.YtniljpjjnmkoaaaGreatDoor.Ab
open Go.Proofs
theorem Qci (N : Nat) (b : List (Int × T)) (l : List It) (hN : N ≤ 1000) (H : SmallC b l) :
  Pure Tryz.prog 64 [.i N, .sl 5 (bavs b) none, .sl 3 (vs It.av l) none] (.tup [.sl 4 (avs (valsOf b N)) none, .sl 2 (vs G.atom (QV b l)) none]) := by
 intro h
 have hb1 := H.b1
 have hl7 := H.l1
 refine Qh Tryz.func64 rfl Tryz.call64 Tryz.ntmps64 (congrArg Array.toList Tryz.results64) (by simp) ?_
 repeat (first | (((with_reducible refine Qa fun K E hK hE => ?_)); simp -implicitDefEqProofs only [Qe, Qf, OpW, aop, AS.ev, Nat.reduceLT]) | (with_reducible (first | refine Qc fun K hK => ?_ | refine Qi ?_)) | ((with_reducible refine hK _ ?_); clear hK))
 refine XG 8 41 4 rfl ?_
 refine XG 9 45 2 rfl ?_
 obtain ⟨I, hI⟩ : ∃ I : Nat → AS → Prop, I = fun m' s => ∃ (k : Nat) (M : AH), m' = N - k ∧ k ≤ N ∧ s.tm 0 = .i N ∧ s.tm 1 = .sl 5 (bavs b) none ∧ s.tm 2 = .sl 3 (vs It.av l) none ∧ s.tm 8 = .sl 4 (avs (valsOf b k)) (some h.length) ∧ s.tm 9 = .sl 2 [] (some (h.length + 1)) ∧ s.tm 10 = .i k ∧ s.h = h ++ ([.grow 41 4 k, .grow 45 2 0] ++ M) := ⟨_, rfl⟩; refine QI I ?_ (m := N) ?_
 ·intro m' s hs; rw [hI] at hs; obtain ⟨tm, hp⟩ := s; dsimp only at hs; obtain ⟨k, M, rfl, hk, t0, t1, t2, t8, t9, t10, rfl⟩ := hs
  by_cases hlt : k < N
  ·have cv : Pure Tryz.prog 16 [.i (k : Int)] (vT k).av := Qds k
   have ca := YW b (by omega) 1 (by omega) (vT k) (Nat.le_refl _)
   have hm1 : k + 1 ≤ maxLen := by simp only [maxLen]; omega
   have hm2 : (k + 1) * 56 ≤ 140737488355328 := by omega
   have hvl := ZU b k
   repeat (first | ((first | (with_reducible (first | refine Qa fun K E hK hE => ?_ | refine Qk fun K E hK hE => ?_ | refine Qp cv ?_ | refine Qp ca ?_))); simp -implicitDefEqProofs only [Qe, Qf, OpW, QJ, aop, AS.ev, AV.Qot, ↓reduceIte, aBin, QM, Xh, XH, ei29, ai29, zi41, t0, t1, t8, t10, hlt, hvl, hm1, hm2, seval]) | (with_reducible (first | refine Qc fun K hK => ?_ | refine Qi ?_ | refine Qm ?_ | refine Qb ?_ | refine Qn ?_)) | ((with_reducible refine hK _ ?_); clear hK) | (refine Qg rfl ?_; simp only [↓reduceIte]))
   refine QW.mk (m' := N - (k + 1)) (by omega) ?_
   rw [hI]
   refine ⟨k + 1, M, rfl, hlt, t0, t1, t2, ?_, t9, ?_, rfl⟩
   ·simp only [upd, ↓reduceIte, Nat.reduceEqDiff]
    rw [ZQ, Yp, Zp]
   ·simp only [upd, ↓reduceIte]
    rw [QN (by omega)]
  ·have hkN : N = k := by omega
   subst hkN
   repeat (first | (((with_reducible refine Qa fun K E hK hE => ?_)); simp -implicitDefEqProofs only [Qe, Qf, OpW, aop, AS.ev, ↓reduceIte, aBin, t0, t10, hlt, seval]) | (with_reducible (first | refine Qc fun K hK => ?_ | refine Qi ?_ | refine QA ?_ | refine Qb ?_ | refine Qu ?_ | refine Qv ?_)) | ((with_reducible refine hK _ ?_); clear hK) | (clear hK; (with_reducible refine hK _ ?_); clear hK) | (refine Qg rfl ?_; simp only [↓reduceIte, Qpc]))
   obtain ⟨I, hI⟩ : ∃ I : Nat → AS → Prop, I = fun m' s => ∃ (k : Nat) (M : AH), m' = l.length - k ∧ k ≤ l.length ∧ s.tm 1 = .sl 5 (bavs b) none ∧ s.tm 2 = .sl 3 (vs It.av l) none ∧ s.tm 8 = .sl 4 (avs (valsOf b N)) (some h.length) ∧ s.tm 9 = .sl 2 (vs G.atom (QV b (l.take k))) (some (h.length + 1)) ∧ s.tm 11 = .i k ∧ s.h = h ++ ([.grow 41 4 N, .grow 45 2 k] ++ M) := ⟨_, rfl⟩; refine QI I ?_ (m := l.length) ?_
   ·intro m' s hs; rw [hI] at hs; obtain ⟨tm, hp⟩ := s; dsimp only at hs; obtain ⟨k, M, rfl, hk, t1, t2, t8, t9, t11, rfl⟩ := hs
    by_cases hlt : k < l.length
    ·have h50 := H.l2 _ (List.getElem_mem hlt)
     have ca : Pure Tryz.prog 17 [.sl 5 (bavs b) none, .agg [.v (.string (l[k]).atom.name), .sl 4 (avs (l[k]).atom.args) none]] (subG b (l[k]).atom).atom := ZC b (by omega) (l[k]).atom (by omega)
     have hsl : (QV b (l.take k)).length = k := by rw [YG, List.length_take]; omega
     have hm1 : k + 1 ≤ maxLen := by simp only [maxLen]; omega
     have hm2 : (k + 1) * 40 ≤ 140737488355328 := by omega
     repeat (first | ((first | (with_reducible (first | refine Qa fun K E hK hE => ?_ | refine Qk fun K E hK hE => ?_ | refine Qp ca ?_))); simp -implicitDefEqProofs only [Qe, Qf, OpW, QJ, aop, AS.ev, AV.Qot, ↓reduceIte, Qo, QB, QC, Qt, aBin, QM, aLen, Xh, XH, goInt, ei24, un24, ei30, ai30, ti45, zi45, Qbe, t1, t2, t9, t11, hlt, QP, Xw It.av hlt, It.cells, It.isAgg, QR, hsl, hm1, hm2, seval]) | (with_reducible (first | refine Qc fun K hK => ?_ | refine Qi ?_ | refine Qm ?_ | refine Qb ?_ | refine Qn ?_)) | ((with_reducible refine hK _ ?_); clear hK) | (refine Qg rfl ?_; simp only [↓reduceIte]))
     refine QW.mk (m' := l.length - (k + 1)) (by omega) ?_
     rw [hI]
     refine ⟨k + 1, M, rfl, hlt, t1, t2, t8, ?_, ?_, rfl⟩
     ·simp only [upd, ↓reduceIte, Nat.reduceEqDiff]
      rw [Qac b hlt, QcT, Ql8]
     ·simp only [upd, ↓reduceIte]
      rw [QN (by omega)]
    ·have hkl : k = l.length := by omega
     subst hkl
     rw [List.take_length] at t9
     repeat (first | (((with_reducible refine Qa fun K E hK hE => ?_)); simp -implicitDefEqProofs only [Qe, Qf, OpW, aop, AS.ev, ↓reduceIte, aBin, aLen, goInt, un24, t2, t8, t9, t11, hlt, QP, seval]) | (with_reducible (first | refine Qc fun K hK => ?_ | refine Qj ?_ | refine QA ?_ | refine Qb ?_ | refine Qu ?_ | refine Qv ?_)) | ((with_reducible refine hK _ ?_); clear hK) | (clear hK; (with_reducible refine hK _ ?_); clear hK) | (refine Qg rfl ?_; simp only [↓reduceIte, Qpc]))
     simp -implicitDefEqProofs only [QdZ, ↓reduceIte, Nat.reduceEqDiff, Qpa, Qpd, Qpe, List.mapM_cons, List.mapM_nil, Option.pure_def, Option.bind_eq_bind, QD, Ql, Qr, Qpi]
     exact Qd (r' := .tup [.sl 4 (avs (valsOf b N)) none, .sl 2 (vs G.atom (QV b l)) none]) (htake _ _) (.tup rfl (QZ (.tok (Yh _ _)) (Xz (.tok (Qc1 G.atom _ (Yw _) _))))) ⟨rfl, rfl⟩
   ·rw [hI]
    exact ⟨0, M, by omega, Nat.zero_le _, t1, t2, t8, t9, rfl, rfl⟩
 ·rw [hI]
  exact ⟨0, [], by omega, Nat.zero_le _, rfl, rfl, rfl, rfl, by simp only [upd, ↓reduceIte]; simp, rfl, by simp⟩
theorem QkH (l : List T) : XY (.mk 2 0 { data := #[] } l) = ded [] (Yr l) := by rw [Qf0]; rfl
theorem QdL (n : Int) (vals : List T) (store : List G) (hn : ndsL vals + gsN store ≤ 100000) :
  Pure Tryz.prog 65 [.i n, .sl 4 (avs vals) none, .sl 2 (vs G.atom store) none] (.sl 1 (ints (Xu n vals store)) none) := by
 intro h
 have hlv := QY vals
 have hls := YZ store
 have hA : ndsL (vals ++ Xo store) ≤ 100000 := by rw [Yd]; have := Qa3 store; omega
 have cV := Qdy (vals ++ Xo store) (by omega)
 rw [← QkH] at cV
 have hvl := Zi (.mk 2 0 { data := #[] } (vals ++ Xo store)) (by rw [T.Qow]; simp only [T.args]; omega)
 have hm1 : vals.length ≤ maxLen := by simp only [maxLen]; omega
 have hm2 : vals.length * 56 ≤ 140737488355328 := by omega
 generalize hV : XY (.mk 2 0 { data := #[] } (vals ++ Xo store)) = V at cV hvl
 have eO : Xu n vals store = V.filter fun v => !decide (v < n) := by rw [Xu, hV]
 refine Qh Tryz.func65 rfl Tryz.call65 Tryz.ntmps65 (congrArg Array.toList Tryz.results65) (by simp) ?_
 repeat (first | (((with_reducible refine Qa fun K E hK hE => ?_)); simp -implicitDefEqProofs only [Qe, Qf, OpW, aop, undef, AS.ev, Qy, ↓reduceIte, Xh, XH, ai29, hm1, hm2, seval]) | (with_reducible (first | refine Qc fun K hK => ?_ | refine Qi ?_)) | ((with_reducible refine hK _ ?_); clear hK))
 obtain ⟨I, hI⟩ : ∃ I : Nat → AS → Prop, I = fun m' s => ∃ (k : Nat), m' = store.length - k ∧ k ≤ store.length ∧ s.tm 0 = .i n ∧ s.tm 2 = .sl 2 (vs G.atom store) none ∧ s.tm 7 = .sl 4 (avs (vals ++ Xo (store.take k))) (some h.length) ∧ s.tm 8 = .i k ∧ s.h = h ++ [.grow 41 4 (vals ++ Xo (store.take k)).length] := ⟨_, rfl⟩; refine QI I ?_ (m := store.length) ?_
 ·intro m' s hs; rw [hI] at hs; obtain ⟨tm, hp⟩ := s; dsimp only at hs; obtain ⟨k, rfl, hk, t0, t2, t7, t8, rfl⟩ := hs
  by_cases hlt : k < store.length
  ·have hla : (vals ++ Xo (store.take k)).length + (store[k]).args.length ≤ 100000 := by
    have h1 := QY (vals ++ Xo (store.take (k + 1)))
    have h2 := QbS store (k + 1)
    rw [Yd] at h1
    rw [Y1 hlt, ← List.append_assoc, List.length_append] at h1
    rw [Y1 hlt] at h2
    omega
   have hb1 : (vals ++ Xo (store.take k)).length + (store[k]).args.length ≤ maxLen := by simp only [maxLen]; omega
   have hb2 : ((vals ++ Xo (store.take k)).length + (store[k]).args.length) * 56 ≤ 140737488355328 := by omega
   have e1 : vals ++ Xo (store.take (k + 1)) = vals ++ Xo (store.take k) ++ (store[k]).args := by rw [Y1 hlt, List.append_assoc]
   repeat (first | ((first | (with_reducible (first | refine Qa fun K E hK hE => ?_ | refine Qk fun K E hK hE => ?_))); simp -implicitDefEqProofs only [Qe, Qf, OpW, aop, AS.ev, ↓reduceIte, Qo, QB, QC, Qt, aBin, aLen, Xh, XH, goInt, ti29, ai29, ei30, un30, YR, t2, t7, t8, hlt, QP, Xw G.atom hlt, QR, hb1, hb2, seval]) | (with_reducible (first | refine Qc fun K hK => ?_ | refine Qi ?_ | refine Qm ?_ | refine Qb ?_ | refine Qn ?_)) | ((with_reducible refine hK _ ?_); clear hK) | (refine Qg rfl ?_; simp only [↓reduceIte]))
   refine QW.mk (m' := store.length - (k + 1)) (by omega) ?_
   rw [hI]
   refine ⟨k + 1, rfl, hlt, t0, t2, ?_, ?_, ?_⟩
   ·simp only [upd, ↓reduceIte, Nat.reduceEqDiff]
    rw [e1, Yp (vals ++ Xo (store.take k))]
   ·simp only [upd, ↓reduceIte]
    rw [QN (by omega)]
   ·rw [e1, List.length_append (bs := (store[k]).args)]
  ·have hkl : k = store.length := by omega
   subst hkl
   rw [List.take_length] at t7 ⊢
   have cV' := Yx (args := [AV.sl 4 (avs (vals ++ Xo store)) (some h.length)]) (.cons (.sl rfl (fun y hy => by rw [Y5, List.mem_map] at hy; obtain ⟨t, _, rfl⟩ := hy; exact T.cells4 t) (.refl _)) .nil) cV
   repeat (first | ((first | (with_reducible (first | refine Qa fun K E hK hE => ?_ | refine Qp cV' ?_))); simp -implicitDefEqProofs only [Qe, Qf, OpW, QJ, aop, AS.ev, ↓reduceIte, aBin, aLen, goInt, un30, t2, t7, t8, hlt, QP, seval]) | (with_reducible (first | refine Qc fun K hK => ?_ | refine Qi ?_ | refine QA ?_ | refine Qb ?_ | refine Qu ?_ | refine Qv ?_)) | ((with_reducible refine hK _ ?_); clear hK) | (clear hK; (with_reducible refine hK _ ?_); clear hK) | (refine Qg rfl ?_; simp only [↓reduceIte, Qpc]))
   refine XG 10 3 1 rfl ?_
   obtain ⟨I, hI⟩ : ∃ I : Nat → AS → Prop, I = fun m' s => ∃ (k : Nat), m' = V.length - k ∧ k ≤ V.length ∧ s.tm 0 = .i n ∧ s.tm 9 = .sl 1 (ints V) none ∧ s.tm 10 = .sl 1 (ints ((V.take k).filter fun v => !decide (v < n))) (some (h.length + 1)) ∧ s.tm 11 = .i k ∧ s.h = h ++ [.grow 41 4 (vals ++ Xo store).length, .grow 3 1 ((V.take k).filter fun v => !decide (v < n)).length] := ⟨_, rfl⟩; refine QI I ?_ (m := V.length) ?_
   ·intro m' s hs; rw [hI] at hs; obtain ⟨tm, hp⟩ := s; dsimp only at hs; obtain ⟨k, rfl, hk, t0, t9, t10, t11, rfl⟩ := hs
    by_cases hlt : k < V.length
    ·have hts : V.take (k + 1) = V.take k ++ [V[k]] := List.take_succ_eq_append_getElem hlt
     have hfl : ((V.take k).filter fun v => !decide (v < n)).length ≤ k := by
      have := List.length_filter_le (fun v => !decide (v < n)) (V.take k)
      rw [List.length_take] at this; omega
     by_cases hge : V[k] ≥ n
     ·have ef : (V.take (k + 1)).filter (fun v => !decide (v < n)) = ((V.take k).filter fun v => !decide (v < n)) ++ [V[k]] := by
       rw [hts, List.filter_append]
       have : decide (V[k] < n) = false := decide_eq_false (by omega)
       simp [this]
      have hb1 : ((V.take k).filter fun v => !decide (v < n)).length + 1 ≤ maxLen := by simp only [maxLen]; omega
      have hb2 : (((V.take k).filter fun v => !decide (v < n)).length + 1) * 8 ≤ 140737488355328 := by omega
      repeat (first | ((first | (with_reducible (first | refine Qa fun K E hK hE => ?_ | refine Qk fun K E hK hE => ?_))); simp -implicitDefEqProofs only [Qe, Qf, OpW, aop, AS.ev, AV.Qot, ↓reduceIte, QB, QC, Qt, aBin, QM, aLen, Xh, XH, goInt, ti3, zi3, ei49, ai49, un49, t0, t9, t10, t11, hlt, XQ hlt, hge, hb1, hb2, seval]) | (with_reducible (first | refine Qc fun K hK => ?_ | refine Qi ?_ | refine Qm ?_ | refine Qb ?_ | refine Qn ?_)) | ((with_reducible refine hK _ ?_); clear hK) | (refine Qg rfl ?_; simp only [↓reduceIte]))
      refine QW.mk (m' := V.length - (k + 1)) (by omega) ?_
      rw [hI]
      refine ⟨k + 1, rfl, hlt, t0, t9, ?_, ?_, ?_⟩
      ·simp only [upd, ↓reduceIte, Nat.reduceEqDiff]
       rw [ef, XB]; rfl
      ·simp only [upd, ↓reduceIte]
       rw [QN (by omega)]
      ·rw [ef, List.length_append (bs := [V[k]])]; simp
     ·have ef : (V.take (k + 1)).filter (fun v => !decide (v < n)) = (V.take k).filter fun v => !decide (v < n) := by
       rw [hts, List.filter_append]
       have : decide (V[k] < n) = true := decide_eq_true (by omega)
       simp [this]
      repeat (first | ((first | (with_reducible (first | refine Qa fun K E hK hE => ?_ | refine Qk fun K E hK hE => ?_))); simp -implicitDefEqProofs only [Qe, Qf, OpW, aop, AS.ev, ↓reduceIte, QB, QC, Qt, aBin, aLen, goInt, ti3, ei49, un49, t0, t9, t11, hlt, XQ hlt, hge, seval]) | (with_reducible (first | refine Qc fun K hK => ?_ | refine Qi ?_ | refine Qm ?_ | refine Qb ?_ | refine Qn ?_)) | ((with_reducible refine hK _ ?_); clear hK) | (refine Qg rfl ?_; simp only [↓reduceIte, Qpc]))
      refine QW.mk (m' := V.length - (k + 1)) (by omega) ?_
      rw [hI]
      refine ⟨k + 1, rfl, hlt, t0, t9, by rw [ef]; exact t10, ?_, by rw [ef]⟩
      simp only [upd, ↓reduceIte]
      rw [QN (by omega)]
    ·have hkl : k = V.length := by omega
     subst hkl
     rw [List.take_length] at t10
     repeat (first | (((with_reducible refine Qa fun K E hK hE => ?_)); simp -implicitDefEqProofs only [Qe, Qf, OpW, aop, AS.ev, ↓reduceIte, aBin, aLen, goInt, un49, t9, t10, t11, hlt, seval]) | (with_reducible (first | refine Qc fun K hK => ?_ | refine Qj ?_ | refine QA ?_ | refine Qb ?_ | refine Qu ?_ | refine Qv ?_)) | ((with_reducible refine hK _ ?_); clear hK) | (clear hK; (with_reducible refine hK _ ?_); clear hK) | (refine Qg rfl ?_; simp only [↓reduceIte, Qpc]))
     simp only [QD, Ql, Qr, upd, ↓reduceIte, Qpe, Qpi]; first | refine Qd (htake _ _) (.tok (XW _ _)) ⟨by rw [eO], rfl⟩ | refine Qd List.take_length (.tok (XW _ _)) ⟨by rw [eO], rfl⟩
   ·rw [hI]
    refine ⟨0, by omega, Nat.zero_le _, t0, rfl, ?_, rfl, ?_⟩
    ·simp only [upd, ↓reduceIte]; simp [ints]
    ·simp
 ·rw [hI]
  refine ⟨0, by omega, Nat.zero_le _, rfl, rfl, ?_, rfl, ?_⟩
  ·simp only [upd, ↓reduceIte, Nat.reduceEqDiff]; simp [Xo]
  ·simp [Xo]
end Go.Proofs.YtniljpjjnmkoaaaGreatDoor.Ab
set_option maxRecDepth 4000
namespace Go.Proofs.YtniljpjjnmkoaaaGreatDoor.Ab
open Go.Proofs
def renB (n : Int) (p : List Int) : List (Int × T) := (List.range p.length).map fun i => (p.getD i 0, vT (n + (i : Nat)))
theorem Zc (n : Int) (p : List Int) : (renB n p).length = p.length := by simp [renB]
theorem QjK (n : Int) {p : List Int} {k : Nat} (h : k < p.length) : (renB n p).take (k + 1) = (renB n p).take k ++ [(p[k], vT (n + (k : Nat)))] := by
 have hk : k < (renB n p).length := by rw [Zc]; exact h
 rw [List.take_succ_eq_append_getElem hk]
 simp only [renB, List.getElem_map, List.getElem_range]
 rw [List.getD_eq_getElem?_getD, List.getElem?_eq_getElem h]; rfl
theorem QeW (n : Int) (p : List Int) (hn : 0 ≤ n ∧ n ≤ 1000) (hp : p.length ≤ 1000) : Pure Tryz.prog 111 [.i n, .sl 1 (ints p) none] (.sl 5 (bavs (renB n p)) none) := by
 intro h
 refine Qh Tryz.func111 rfl Tryz.call111 Tryz.ntmps111 (congrArg Array.toList Tryz.results111) (by simp) ?_
 repeat (first | ((first | (with_reducible (first | refine Qa fun K E hK hE => ?_ | refine Qk fun K E hK hE => ?_)) | (refine Qw (id := 5) [(0, 0), (1, 0), (2, 0), (3, 0), (4, 0), (5, 0), (6, 0), (7, 0), (8, 1), (9, 0), (10, 0), (11, 2), (12, 0)] mixed (by kernel_rfl) fun K hK => ?_) | (refine QG (id := 5) [(0, 0), (1, 0), (2, 0), (3, 0), (4, 0), (5, 0), (6, 0), (7, 0), (8, 1), (9, 0), (10, 0), (11, 2), (12, 0)] mixed (by kernel_rfl) fun K hK => ?_)); simp -implicitDefEqProofs only [Qe, Qf, OpW, aop, AS.ev, Nat.reduceLT]) | (with_reducible (first | refine Qc fun K hK => ?_ | refine Qi ?_ | refine Qj ?_ | refine Q2 ?_ | refine Q1 ?_ | refine Qm ?_ | refine QA ?_ | refine Qb ?_ | refine Qq ?_ | refine Qu ?_ | refine Qn ?_ | refine Qs ?_ | refine Qv ?_ | refine QU rfl ?_)) | (with_reducible (first | refine hK _ ?_ | (clear hK; refine hK _ ?_) | (clear hK; clear hK; refine hK _ ?_) | (clear hK; clear hK; clear hK; refine hK _ ?_)); clear hK) | (refine Qg rfl ?_; simp only [↓reduceIte, Qpc]) | (intro (b : Bool); cases b))
 refine XG 5 52 5 rfl ?_
 obtain ⟨I, hI⟩ : ∃ I : Nat → AS → Prop, I = fun m' s => ∃ (k : Nat), m' = p.length - k ∧ k ≤ p.length ∧ s.tm 0 = .i n ∧ s.tm 1 = .sl 1 (ints p) none ∧ s.tm 5 = .sl 5 (bavs ((renB n p).take k)) (some h.length) ∧ s.tm 6 = .i k ∧ s.h = h ++ [.grow 52 5 k] := ⟨_, rfl⟩; refine QI I ?_ (m := p.length) ?_
 ·intro m' s hs; rw [hI] at hs; obtain ⟨tm, hp⟩ := s; dsimp only at hs; obtain ⟨k, rfl, hk, t0, t1, t5, t6, rfl⟩ := hs
  by_cases hlt : k < p.length
  ·have hw : IntKind.i64.wrap (n + (k : Int)) = n + (k : Int) := XD (by omega)
   have cv : Pure Tryz.prog 16 [.i (n + (k : Int))] (vT (n + (k : Int))).av := Qds _
   have hl : ((renB n p).take k).length = k := by rw [List.length_take, Zc]; omega
   have hb1 : k + 1 ≤ maxLen := by simp only [maxLen]; omega
   have hb2 : (k + 1) * 64 ≤ 140737488355328 := by omega
   repeat (first | ((first | (with_reducible (first | refine Qa fun K E hK hE => ?_ | refine Qk fun K E hK hE => ?_ | refine Qp cv ?_ | refine Qz cv ?_)) | (refine Qw (id := 5) [(0, 0), (1, 0), (2, 0), (3, 0), (4, 0), (5, 0), (6, 0), (7, 0), (8, 1), (9, 0), (10, 0), (11, 2), (12, 0)] mixed (by kernel_rfl) fun K hK => ?_) | (refine QG (id := 5) [(0, 0), (1, 0), (2, 0), (3, 0), (4, 0), (5, 0), (6, 0), (7, 0), (8, 1), (9, 0), (10, 0), (11, 2), (12, 0)] mixed (by kernel_rfl) fun K hK => ?_)); simp -implicitDefEqProofs only [Qe, Qf, OpW, aop, AS.ev, AV.Qot, ↓reduceIte, QB, QC, Qt, aBin, Xv, XO, QM, aLen, Xh, XH, goInt, ti3, ei22, ai22, ei49, un49, zi52, sp52, t0, t1, t5, t6, hlt, XQ hlt, hw, QL, hl, hb1, hb2, seval]) | (with_reducible (first | refine Qc fun K hK => ?_ | refine Qi ?_ | refine Qj ?_ | refine Q2 ?_ | refine Q1 ?_ | refine Qm ?_ | refine QA ?_ | refine Qb ?_ | refine Qq ?_ | refine Qu ?_ | refine Qn ?_ | refine Qs ?_ | refine Qv ?_ | refine QU rfl ?_)) | (with_reducible (first | refine hK _ ?_ | (clear hK; refine hK _ ?_) | (clear hK; clear hK; refine hK _ ?_) | (clear hK; clear hK; clear hK; refine hK _ ?_)); clear hK) | (refine Qg rfl ?_; simp only [↓reduceIte]) | (intro (b : Bool); cases b))
   refine QW.mk (m' := p.length - (k + 1)) (by omega) ?_
   rw [hI]
   refine ⟨k + 1, rfl, hlt, t0, t1, ?_, ?_, rfl⟩
   ·simp only [upd, ↓reduceIte, Nat.reduceEqDiff]
    rw [QjK n hlt, Qha]; rfl
   ·simp only [upd, ↓reduceIte]
    rw [QN (by omega)]
  ·have hkl : k = p.length := by omega
   repeat (first | ((first | (with_reducible (first | refine Qa fun K E hK hE => ?_ | refine Qk fun K E hK hE => ?_)) | (refine Qw (id := 5) [(0, 0), (1, 0), (2, 0), (3, 0), (4, 0), (5, 0), (6, 0), (7, 0), (8, 1), (9, 0), (10, 0), (11, 2), (12, 0)] mixed (by kernel_rfl) fun K hK => ?_) | (refine QG (id := 5) [(0, 0), (1, 0), (2, 0), (3, 0), (4, 0), (5, 0), (6, 0), (7, 0), (8, 1), (9, 0), (10, 0), (11, 2), (12, 0)] mixed (by kernel_rfl) fun K hK => ?_)); simp -implicitDefEqProofs only [Qe, Qf, OpW, aop, AS.ev, ↓reduceIte, aBin, aLen, goInt, un49, t1, t5, t6, hlt, seval]) | (with_reducible (first | refine Qc fun K hK => ?_ | refine Qi ?_ | refine Qj ?_ | refine Q2 ?_ | refine Q1 ?_ | refine Qm ?_ | refine QA ?_ | refine Qb ?_ | refine Qq ?_ | refine Qu ?_ | refine Qn ?_ | refine Qs ?_ | refine Qv ?_ | refine QU rfl ?_)) | (with_reducible (first | refine hK _ ?_ | (clear hK; refine hK _ ?_) | (clear hK; clear hK; refine hK _ ?_) | (clear hK; clear hK; clear hK; refine hK _ ?_)); clear hK) | (refine Qg rfl ?_; simp only [↓reduceIte, Qpc]) | (intro (b : Bool); cases b))
   simp only [QD, Ql, Qr, upd, ↓reduceIte, Qpe, Qpi]; first | refine Qd (htake _ _) (.tok (QfX _ _)) ⟨by rw [hkl, List.take_of_length_le (by rw [Zc]; exact Nat.le_refl _)], rfl⟩ | refine Qd List.take_length (.tok (QfX _ _)) ⟨by rw [hkl, List.take_of_length_le (by rw [Zc]; exact Nat.le_refl _)], rfl⟩
 ·rw [hI]
  exact ⟨0, by omega, Nat.zero_le _, rfl, rfl, rfl, rfl, rfl⟩
end Go.Proofs.YtniljpjjnmkoaaaGreatDoor.Ab
set_option maxRecDepth 4000
namespace Go.Proofs.YtniljpjjnmkoaaaGreatDoor.Ab
open Go.Proofs
theorem QgV (l : List G) (hb : l.length ≤ 1000) (hn : ∀ g ∈ l, ndsL g.args ≤ 1000000) : Pure Tryz.prog 112 [.sl 2 (vs G.atom l) none] (.sl 2 (vs G.atom (Yq cmpG l)) none) := by
 intro h
 refine Qh Tryz.func112 rfl Tryz.call112 Tryz.ntmps112 (congrArg Array.toList Tryz.results112) (by simp) ?_
 repeat (first | (((with_reducible refine Qa fun K E hK hE => ?_)); simp -implicitDefEqProofs only [Qe, Qf, OpW, aop, AS.ev, Nat.reduceLT]) | (with_reducible (first | refine Qc fun K hK => ?_ | refine Qi ?_)) | ((with_reducible refine hK _ ?_); clear hK))
 refine XG 3 45 2 rfl ?_
 obtain ⟨I, hI⟩ : ∃ I : Nat → AS → Prop, I = fun m' s => ∃ (i : Nat) (tk : Nat) (M : AH), m' = l.length - i ∧ i ≤ l.length ∧ s.tm 0 = .sl 2 (vs G.atom l) none ∧ s.tm 3 = .sl 2 (vs G.atom (Yq cmpG (l.take i))) (some tk) ∧ s.tm 4 = .i i ∧ s.h = h ++ M := ⟨_, rfl⟩; refine QI I ?_ (m := l.length) ?_
 ·have hO := hI
  intro m' s hs; rw [hI] at hs; obtain ⟨tm, hp⟩ := s; dsimp only at hs; obtain ⟨i, tk, M, rfl, hi, t0, t3, t4, rfl⟩ := hs
  by_cases hlt : i < l.length
  ·generalize hS : Yq cmpG (l.take i) = S at t3
   have hSl : S.length = i := by rw [← hS, Zk, List.length_take]; omega
   have hSn : ∀ g ∈ S, ndsL g.args ≤ 1000000 := fun g hg => by
    rw [← hS] at hg
    exact hn g (List.mem_of_mem_take ((Y0 cmpG _).mem_iff.1 hg))
   have fin : Yq cmpG (l.take (i + 1)) = insC cmpG S l[i] := by rw [List.take_succ_eq_append_getElem hlt, Qej, hS]
   iterate 10 (try (first | (((with_reducible refine Qa fun K E hK hE => ?_)); simp -implicitDefEqProofs only [Qe, Qf, OpW, aop, AS.ev, ↓reduceIte, aBin, aLen, goInt, un30, t0, t3, t4, hlt, QP, seval]) | (with_reducible (first | refine Qc fun K hK => ?_ | refine Qi ?_ | refine Qm ?_ | refine Qb ?_)) | ((with_reducible refine hK _ ?_); clear hK) | (refine Qg rfl ?_; simp only [↓reduceIte])))
   refine hK _ ?_
   refine Yu (fun s => ∃ k : Nat, k ≤ i ∧ insC cmpG S l[i] = S.take k ++ l[i] :: S.drop k ∧ s.tm 0 = .sl 2 (vs G.atom l) none ∧ s.tm 3 = .sl 2 (vs G.atom S) (some tk) ∧ s.tm 4 = .i i ∧ s.tm 5 = .i k ∧ s.h = h ++ M) ?_ ?_
   ·rintro ⟨tm, hp⟩ ⟨k, hk, he, t0, t3, t4, t5, rfl⟩
    dsimp only at t0 t3 t4 t5
    have ml : (S.take k).length = k := by rw [List.length_take]; omega
    have md : (S.drop k).length = S.length - k := List.length_drop
    have hkS : k ≤ S.length := by omega
    have m0 : k ≤ maxLen := by simp only [maxLen]; omega
    have m0' : k * 40 ≤ 140737488355328 := by omega
    have m1 : k + 1 ≤ maxLen := by simp only [maxLen]; omega
    have m1' : (k + 1) * 40 ≤ 140737488355328 := by omega
    have m2 : k + 1 + (S.length - k) ≤ maxLen := by simp only [maxLen]; omega
    have m2' : (k + 1 + (S.length - k)) * 40 ≤ 140737488355328 := by omega
    have t00 : ((S.length : Int) - (0 : Int)).toNat = S.length := by omega
    have tkk : ((S.length : Int) - (k : Int)).toNat = S.length - k := by omega
    have dk : (S.drop k).take (S.length - k) = S.drop k := List.take_of_length_le (by rw [List.length_drop]; exact Nat.le_refl _)
    have m3 : S.length ≤ maxLen := by simp only [maxLen]; omega
    have m4 : 1 + S.length ≤ maxLen := by simp only [maxLen]; omega
    have m4' : (1 + S.length) * 40 ≤ 140737488355328 := by omega
    have s1 : 1 ≤ maxLen := by simp only [maxLen]; omega
    by_cases hk0 : k = 0
    ·subst hk0
     by_cases hs0 : S.length = 0
     ·have hS0 : S = [] := List.length_eq_zero_iff.1 hs0
      subst hS0
      repeat (first | ((first | (with_reducible (first | refine Qa fun K E hK hE => ?_ | refine Qk fun K E hK hE => ?_))); simp -implicitDefEqProofs only [Qe, Qf, OpW, aop, AS.ev, AV.Qot, ↓reduceIte, QB, QC, Qt, aBin, QM, YL, Q9, Xh, XH, ei30, ai30, ti45, zi45, QpV, t0, t3, t4, t5, hlt, QP, Qmf, Xw G.atom hlt, QR, Q4, s1, seval]) | (with_reducible (first | refine Qb ?_ | refine Qn ?_)) | ((with_reducible refine hK _ ?_); clear hK) | (clear hK; (with_reducible refine hK _ ?_); clear hK))
      refine QW.mk (m' := l.length - (i + 1)) (by omega) ?_
      rw [hO]
      refine ⟨i + 1, (h ++ M).length, M ++ [.grow 45 2 1], rfl, hlt, t0, ?_, ?_, ?_⟩
      ·simp only [upd, ↓reduceIte, Nat.reduceEqDiff]
       rw [fin, he]
       simp [vs, ]
      ·simp only [upd, ↓reduceIte]
       rw [QN (by omega)]
      ·simp []
     ·have z0 : ¬ ((0 : Int) = ((S.length : Nat) : Int)) := by omega
      repeat (first | ((first | (with_reducible (first | refine Qa fun K E hK hE => ?_ | refine Qk fun K E hK hE => ?_))); simp -implicitDefEqProofs only [Qe, Qf, OpW, aop, AS.ev, AV.Qot, ↓reduceIte, QB, QC, Qt, aBin, QM, YL, Q9, Xh, XH, ei30, ai30, ti45, zi45, QpV, Int.sub_zero, t0, t3, t4, t5, hlt, QP, Xw G.atom hlt, QR, Q4, z0, s1, m4, m4', seval]) | (with_reducible (first | refine Qb ?_ | refine Qn ?_)) | ((with_reducible refine hK _ ?_); clear hK) | (clear hK; (with_reducible refine hK _ ?_); clear hK))
      refine QW.mk (m' := l.length - (i + 1)) (by omega) ?_
      rw [hO]
      refine ⟨i + 1, (h ++ M).length, M ++ [.grow 45 2 (1 + S.length)], rfl, hlt, t0, ?_, ?_, ?_⟩
      ·simp only [upd, ↓reduceIte, Nat.reduceEqDiff]
       rw [fin, he]
       simp [vs, ]
      ·simp only [upd, ↓reduceIte]
       rw [QN (by omega)]
      ·simp []
    ·have y0 : ¬ ((k : Int) = 0) := by omega
     by_cases hfull : k = S.length
     ·have z0 : (((k : Nat) : Int) = ((S.length : Nat) : Int)) := by omega
      subst hfull
      have d0 : S.drop S.length = [] := List.drop_length
      repeat (first | ((first | (with_reducible (first | refine Qa fun K E hK hE => ?_ | refine Qk fun K E hK hE => ?_))); simp -implicitDefEqProofs only [Qe, Qf, OpW, aop, AS.ev, AV.Qot, ↓reduceIte, QB, QC, Qt, aBin, QM, YL, Q9, Xh, XH, ei30, ai30, ti45, zi45, QpV, t0, t3, t4, t5, hlt, QP, Xw G.atom hlt, QR, Q4, m0, m0', m1, m1', Qke, d0, Qmf, y0, List.take_nil, QpZ, seval]) | (with_reducible (first | refine Qb ?_ | refine Qn ?_)) | ((with_reducible refine hK _ ?_); clear hK) | (clear hK; (with_reducible refine hK _ ?_); clear hK))
      refine QW.mk (m' := l.length - (i + 1)) (by omega) ?_
      rw [hO]
      refine ⟨i + 1, (h ++ M).length, M ++ [.grow 45 2 (S.length + 1)], rfl, hlt, t0, ?_, ?_, ?_⟩
      ·simp only [upd, ↓reduceIte, Nat.reduceEqDiff]
       rw [fin, he]
       simp [vs, ]
      ·simp only [upd, ↓reduceIte]
       rw [QN (by omega)]
      ·simp []
     ·have z0 : ¬ (((k : Nat) : Int) = ((S.length : Nat) : Int)) := by omega
      repeat (first | ((first | (with_reducible (first | refine Qa fun K E hK hE => ?_ | refine Qk fun K E hK hE => ?_))); simp -implicitDefEqProofs only [Qe, Qf, OpW, aop, AS.ev, AV.Qot, ↓reduceIte, QB, QC, Qt, aBin, QM, YL, Q9, Xh, XH, ei30, ai30, ti45, zi45, QpV, Int.sub_zero, t0, t3, t4, t5, hlt, QP, hkS, Xw G.atom hlt, QR, Q4, m0, m0', m1, m1', m2, m2', Qmj, Qke, ml, md, z0, y0, tkk, dk, QpZ, seval]) | (with_reducible (first | refine Qb ?_ | refine Qn ?_)) | ((with_reducible refine hK _ ?_); clear hK) | (clear hK; (with_reducible refine hK _ ?_); clear hK))
      refine QW.mk (m' := l.length - (i + 1)) (by omega) ?_
      rw [hO]
      refine ⟨i + 1, (h ++ M).length, M ++ [.grow 45 2 (k + 1 + (S.length - k))], rfl, hlt, t0, ?_, ?_, ?_⟩
      ·simp only [upd, ↓reduceIte, Nat.reduceEqDiff]
       rw [fin, he]
       simp [vs, ]
      ·simp only [upd, ↓reduceIte]
       rw [QN (by omega)]
      ·simp []
   ·skip
    refine Qi ?_
    obtain ⟨I, hI⟩ : ∃ I : Nat → AS → Prop, I = fun m' s => ∃ k : Nat, m' = k ∧ k ≤ i ∧ insC cmpG S l[i] = insC cmpG (S.take k) l[i] ++ S.drop k ∧ s.tm 0 = .sl 2 (vs G.atom l) none ∧ s.tm 3 = .sl 2 (vs G.atom S) (some tk) ∧ s.tm 4 = .i i ∧ s.tm 5 = .i k ∧ s.h = h ++ M := ⟨_, rfl⟩; refine QI I ?_ (m := i) ?_
    ·intro m' s hs; rw [hI] at hs; obtain ⟨tm, hp⟩ := s; dsimp only at hs; obtain ⟨k, hm, hk, he, t0, t3, t4, t5, rfl⟩ := hs
     cases k with
     | zero =>
      have h00 : ¬ ((0 : Int) > 0) := by decide
      have e0 : insC cmpG S l[i] = S.take 0 ++ l[i] :: S.drop 0 := by rw [he]; simp [QhQ]
      repeat (first | (((refine Qw (id := 6) [(0, 0), (1, 0), (2, 0), (3, 0), (4, 0), (5, 0), (6, 0), (7, 0), (8, 0), (9, 0), (10, 0), (11, 0), (12, 1), (13, 0), (14, 0)] mixed (by kernel_rfl) fun K hK => ?_)); simp -implicitDefEqProofs only [Qe, Qf, aop, undef, AS.ev, ↓reduceIte, aBin, t5, h00, seval]) | (with_reducible (first | refine Qc fun K hK => ?_ | refine QA ?_ | refine Qb ?_ | refine Qu ?_ | refine Qv ?_)) | ((with_reducible refine hK _ ?_); clear hK) | (refine Qg rfl ?_; simp only [↓reduceIte, Qpc]))
      exact ⟨0, Nat.zero_le _, e0, t0, t3, t4, t5, rfl⟩
     | succ k =>
      have hkS : k < S.length := by omega
      have hw1 : IntKind.i64.wrap (((k + 1 : Nat) : Int) - 1) = ((k : Nat) : Int) := by rw [XD (by omega)]; omega
      have hpos : ((k + 1 : Nat) : Int) > 0 := by omega
      have hts : S.take (k + 1) = S.take k ++ [S[k]] := List.take_succ_eq_append_getElem hkS
      have cc := Yk S[k] l[i] (hSn _ (List.getElem_mem hkS))
      have han := ordG.anti l[i] S[k]
      rw [hts, QfN] at he
      by_cases hc : cmpG S[k] l[i] > 0
      ·rw [if_pos (by omega)] at he
       repeat (first | ((first | (with_reducible (first | refine Qk fun K E hK hE => ?_ | refine Qz cc ?_)) | (refine Qw (id := 6) [(0, 0), (1, 0), (2, 0), (3, 0), (4, 0), (5, 0), (6, 0), (7, 0), (8, 0), (9, 0), (10, 0), (11, 0), (12, 1), (13, 0), (14, 0)] mixed (by kernel_rfl) fun K hK => ?_)); simp -implicitDefEqProofs only [Qe, Qf, OpW, aop, AS.ev, ↓reduceIte, QB, QC, Qt, aBin, ei30, ti45, t0, t3, t4, t5, hlt, QP, hpos, hw1, hkS, Xw G.atom hkS, Xw G.atom hlt, QR, Q4, hc, seval]) | (with_reducible (first | refine Qc fun K hK => ?_ | refine Qi ?_ | refine Qm ?_ | refine Qb ?_ | refine Qn ?_)) | ((with_reducible refine hK _ ?_); clear hK) | (refine Qg rfl ?_; simp only [↓reduceIte]))
       refine QW.mk (m' := k) (by omega) ?_
       rw [hI]
       refine ⟨k, rfl, by omega, ?_, t0, t3, t4, rfl, rfl⟩
       rw [he, List.append_assoc, List.drop_eq_getElem_cons hkS]; rfl
      ·rw [if_neg (by omega)] at he
       have e0 : insC cmpG S l[i] = S.take (k + 1) ++ l[i] :: S.drop (k + 1) := by rw [he, ← hts]; simp
       repeat (first | ((first | (with_reducible refine Qz cc ?_) | (refine Qw (id := 6) [(0, 0), (1, 0), (2, 0), (3, 0), (4, 0), (5, 0), (6, 0), (7, 0), (8, 0), (9, 0), (10, 0), (11, 0), (12, 1), (13, 0), (14, 0)] mixed (by kernel_rfl) fun K hK => ?_)); simp -implicitDefEqProofs only [Qe, Qf, aop, AS.ev, ↓reduceIte, QB, QC, Qt, aBin, ei30, ti45, t0, t3, t4, t5, hlt, QP, hpos, hw1, hkS, Xw G.atom hkS, Xw G.atom hlt, QR, Q4, hc, seval]) | (with_reducible (first | refine Qc fun K hK => ?_ | refine QA ?_ | refine Qb ?_ | refine Qu ?_ | refine Qv ?_)) | ((with_reducible refine hK _ ?_); clear hK) | (refine Qg rfl ?_; simp only [↓reduceIte, Qpc]))
       exact ⟨k + 1, hk, e0, t0, t3, t4, t5, rfl⟩
    ·rw [hI]
     refine ⟨i, rfl, Nat.le_refl _, ?_, t0, t3, t4, ?_, rfl⟩
     ·rw [List.take_of_length_le (by omega), List.drop_eq_nil_of_le (by omega), List.append_nil]
     ·simp only [upd, ↓reduceIte]; rw [hSl]
  ·have hil : i = l.length := by omega
   subst hil
   rw [List.take_length] at t3
   repeat (first | (((with_reducible refine Qa fun K E hK hE => ?_)); simp -implicitDefEqProofs only [Qe, Qf, OpW, aop, AS.ev, ↓reduceIte, aBin, aLen, goInt, un30, t0, t3, t4, hlt, QP, seval]) | (with_reducible (first | refine Qc fun K hK => ?_ | refine Qj ?_ | refine QA ?_ | refine Qb ?_ | refine Qu ?_ | refine Qv ?_)) | ((with_reducible refine hK _ ?_); clear hK) | (clear hK; (with_reducible refine hK _ ?_); clear hK) | (refine Qg rfl ?_; simp only [↓reduceIte, Qpc]))
   simp only [QD, Ql, Qr, upd, ↓reduceIte, Qpe, Qpi]; first | refine Qd (htake _ _) (.tok (Qc1 G.atom _ (Yw _) _)) ⟨rfl, rfl⟩ | refine Qd List.take_length (.tok (Qc1 G.atom _ (Yw _) _)) ⟨rfl, rfl⟩
 ·rw [hI]
  exact ⟨0, h.length, [.grow 45 2 0], by omega, Nat.zero_le _, rfl, rfl, rfl, rfl⟩
end Go.Proofs.YtniljpjjnmkoaaaGreatDoor.Ab
namespace Go.Proofs.YtniljpjjnmkoaaaGreatDoor.Ab
def renL : Int → List Int → List (Int × T)
 | _, [] => []
 | n, v :: p => (v, vT n) :: renL (n + 1) p
theorem Qky : ∀ (p : List Int) (n : Int), (List.range p.length).map (fun i => (p.getD i 0, vT (n + (i : Nat)))) = renL n p
 | [], _ => rfl
 | v :: p, n => by
  rw [List.length_cons, List.range_succ_eq_map, List.map_cons, List.map_map, renL, ← Qky p (n + 1)]
  congr 1
  ·show (v, vT (n + (0 : Nat))) = (v, vT n)
   rw [show n + ((0 : Nat) : Int) = n by omega]
  ·refine List.map_congr_left fun i _ => ?_
   show ((v :: p).getD (i + 1) 0, vT (n + ((i + 1 : Nat) : Int))) = (p.getD i 0, vT (n + 1 + (i : Nat)))
   rw [show n + ((i + 1 : Nat) : Int) = n + 1 + (i : Nat) by omega]; rfl
theorem Qm3 (n : Int) (p : List Int) : renB n p = renL n p := Qky p n
theorem Qel (v : Int) : ∀ (p : List Int) (n : Int), YB (renL n p) v = (toM n p v).map vT
 | [], _ => rfl
 | w :: p, n => by
  rw [renL, YB]
  by_cases h : w = v
  ·subst h
   rw [if_pos rfl, toM, if_pos (by simp)]
   simp [plc]
  ·rw [if_neg h, Qel v p (n + 1), toM, toM]
   by_cases hm : v ∈ p
   ·rw [if_pos hm, if_pos (List.mem_cons_of_mem _ hm), plc, if_neg h]
    simp only [Qpa]
    rw [show n + 1 + ((plc p v : Nat) : Int) = n + ((plc p v + 1 : Nat) : Int) by omega]
   ·rw [if_neg hm, if_neg (by simp [hm, Ne.symm h])]
mutual
theorem T.QoU (n : Int) (p : List Int) : ∀ t : T, t.subst (renB n p) = t.ren (toM n p)
 | .mk k i s l => by
  rw [T.subst, T.ren, ZX n p l, Qm3, Qel]
  cases toM n p i <;> rfl
theorem ZX (n : Int) (p : List Int) : ∀ l : List T, XK (renB n p) l = rens (toM n p) l
 | [] => rfl
 | t :: l => by rw [XK, rens, T.QoU n p t, ZX n p l]
end
theorem QhX (n : Int) (p : List Int) (g : G) : subG (renB n p) g = g.ren (toM n p) := by rw [subG, G.ren, ZX]
def ansM (n : Int) (c : Ct) (p : List Int) : Ct := ⟨rens (toM n p) c.vals, Yq cmpG (c.store.map (G.ren (toM n p)))⟩
theorem QmN (n : Int) (c : Ct) (p : List Int) : ansM n c p = ⟨XK (renB n p) c.vals, Yq cmpG (c.store.map (subG (renB n p)))⟩ := by
 rw [ansM, ZX, List.map_congr_left fun g _ => (QhX n p g).symm]
theorem Qlr {n : Int} {L σ p : List Int} (hp : p.Perm L) (h : ∀ v, toG n L σ v = toF n p v) (v : Int) : toMG n L σ v = toM n p v := by
 have e := h v
 rw [← QkB, ← QlQ] at e
 unfold toMG toM at e ⊢
 by_cases hv : v ∈ L
 ·rw [if_pos hv, if_pos (hp.mem_iff.2 hv)] at e ⊢
  simp only [Option.getD_some] at e
  rw [e]
 ·rw [if_neg hv, if_neg (fun q => hv (hp.mem_iff.1 q))]
theorem QfZ {n : Int} {c : Ct} {L σ p : List Int} (hp : p.Perm L) (h : ∀ v, toG n L σ v = toF n p v) : ansG n c L σ = ansM n c p := by
 have e : toMG n L σ = toM n p := funext (Qlr hp h)
 rw [ansG, ansM, e]
def Qdm (n : Int) (c : Ct) : List (List Int) → Ct
 | [] => ⟨[], []⟩
 | e :: E => Yb cmpA (ansM n c e) (E.map (ansM n c))
theorem QdU {k : Nat} (hk : k ≤ 6) (σ : List Int) : σ ∈ XR 720 (nums k) ↔ σ.Perm (nums k) := by rw [Qdo hk, Qa7]
theorem Qe9 {n : Int} {c : Ct} {L : List Int} {E : List (List Int)} (hn : L.Nodup) (h6 : L.length ≤ 6) (hE : ∀ p, p ∈ E ↔ p.Perm L) : cmpA (Zg n c L) (Qdm n c E) = 0 := by
 have hm := QdU h6
 cases hP : XR 720 (nums L.length) with
 | nil => rw [hP] at hm; exact absurd ((hm (nums L.length)).2 (.refl _)) (by simp)
 | cons d D =>
  rw [hP] at hm
  cases E with
  | nil => exact absurd ((hE L).2 (.refl _)) (by simp)
  | cons e E =>
   have e1 : Zg n c L = Yb cmpA (ansG n c L d) (D.map (ansG n c L)) := by rw [Zg, hP]
   rw [e1, Qdm]
   refine Qg5 ordA (fun y hy => ?_) fun y hy => ?_
   ·rw [← List.map_cons, List.mem_map] at hy
    obtain ⟨σ, h1, rfl⟩ := hy
    obtain ⟨p, h2, h3⟩ := Qk1 hn ((hm σ).1 h1)
    refine ⟨ansM n c p, ?_, ?_⟩
    ·rw [← List.map_cons]; exact List.mem_map.2 ⟨p, (hE p).2 h2, rfl⟩
    ·rw [QfZ h2 h3, ordA.refl]; exact Int.le_refl 0
   ·rw [← List.map_cons, List.mem_map] at hy
    obtain ⟨p, h1, rfl⟩ := hy
    obtain ⟨σ, h2, h3⟩ := QkU hn ((hE p).1 h1)
    refine ⟨ansG n c L σ, ?_, ?_⟩
    ·rw [← List.map_cons]; exact List.mem_map.2 ⟨σ, (hm σ).2 h2, rfl⟩
    ·rw [QfZ ((hE p).1 h1) h3, ordA.refl]; exact Int.le_refl 0
end Go.Proofs.YtniljpjjnmkoaaaGreatDoor.Ab
namespace Go.Proofs.YtniljpjjnmkoaaaGreatDoor.Ab
theorem Qbd : ∀ {xs : List AV}, (∀ x ∈ xs, x.cells = [x]) → flat xs = xs
 | [], _ => rfl
 | x :: xs, h => by rw [Xy, h x (by simp), Qbd fun y hy => h y (by simp [hy])]; rfl
theorem Qa0 {P : Program} {N : Nat} {code : Code} {Q : AExit → AS → Prop} {tm : Nat → AV} {h : AH} (d : Nat) {v w : AV} (hd : tm d = v) (hw : Wk v w) (H : XJ P N code Q ⟨upd tm d w, h⟩) : XJ P N code Q ⟨tm, h⟩ := by
 subst hd
 intro F n base c a hF hst hr R hR
 refine H F n base c a hF hst ⟨hr.h, hr.size, hr.above, hr.defers, hr.round, fun t => ?_⟩ R hR
 by_cases e : t = d
 ·subst e
  show Rel c (upd tm t w t) _
  rw [show upd tm t w t = w by simp [upd]]
  exact hw _ _ (hr.tm t)
 ·show Rel c (upd tm d w t) _
  rw [upd_ne _ _ e]
  exact hr.tm t
end Go.Proofs.YtniljpjjnmkoaaaGreatDoor.Ab
set_option maxRecDepth 4000
namespace Go.Proofs.YtniljpjjnmkoaaaGreatDoor.Ab
open Go.Proofs
theorem Qc8 (N : Nat) (p : List Int) (c : Ct) (hN : N ≤ 1000) (hp : p.length ≤ 1000) (hv : ndsL c.vals ≤ 100000) (hs : gsN c.store ≤ 100000) (hk12 : c.store.length ≤ 12) :
  Pure Tryz.prog 67 [.i N, .sl 1 (ints p) none, .sl 4 (avs c.vals) none, .sl 2 (vs G.atom c.store) none] (An.mk false (ansM N c p).vals (ansM N c p).store).av := by
 intro h
 have hlv := QY c.vals
 have cr := QeW N p (by omega) hp
 have hrl := Zc N p
 have hsn : ∀ g ∈ c.store.map (subG (renB N p)), ndsL g.args ≤ 1000000 := fun g hg => by
  obtain ⟨x, hx, rfl⟩ := List.mem_map.1 hg
  obtain ⟨j, hj, rfl⟩ := List.getElem_of_mem hx
  rw [QhX]
  have := Zn (toM N p) (c.store[j]).args
  have := ZJ hj
  simp only [G.ren]; omega
 rw [QmN]
 generalize hB : renB (N : Int) p = B at cr hrl hsn ⊢
 have cs := QgV (c.store.map (subG B)) (by rw [List.length_map]; omega) hsn
 refine Qh Tryz.func67 rfl Tryz.call67 Tryz.ntmps67 (congrArg Array.toList Tryz.results67) (by simp) ?_
 repeat (first | ((first | (with_reducible (first | refine Qa fun K E hK hE => ?_ | refine Qp cr ?_))); simp -implicitDefEqProofs only [Qe, Qf, OpW, QJ, aop, undef, AS.ev, Qy, AV.Qot, ↓reduceIte, zi32, seval]) | (with_reducible (first | refine Qc fun K hK => ?_ | refine Qi ?_)) | ((with_reducible refine hK _ ?_); clear hK))
 refine YX (h.length + 1) 32 3 4 (.grow 41 4 0) (.inr ⟨_, rfl⟩) [.agg [.v (.bool false), .v (.slice none 0 0), .v (.slice none 0 0)]] [.agg [.v (.bool false), .sl 4 [] (some (h.length + 2)), .v (.slice none 0 0)]] 1 (by rw [hget]; rfl) rfl (by simp [flat, AV.cells]) (by simp [AV.cells]) ?_
 refine XG 11 45 2 rfl ?_
 obtain ⟨I, hI⟩ : ∃ I : Nat → AS → Prop, I = fun m' s => ∃ (k : Nat) (M : AH), m' = c.vals.length - k ∧ k ≤ c.vals.length ∧ s.tm 2 = .sl 4 (avs c.vals) none ∧ s.tm 3 = .sl 2 (vs G.atom c.store) none ∧ s.tm 8 = .ptr h.length 0 0 ∧ s.tm 9 = .sl 5 (bavs B) none ∧ s.tm 10 = .ptr (h.length + 1) 0 0 ∧ s.tm 11 = .sl 2 [] (some (h.length + 3)) ∧ s.tm 12 = .i k ∧
   s.h = h ++ ([.cells 32 3 [.agg [.v (.bool false), .v (.slice none 0 0), .v (.slice none 0 0)]], .cells 32 3 [.agg [.v (.bool false), .sl 4 (avs (XK B (c.vals.take k))) (some (h.length + 2)), .v (.slice none 0 0)]], .grow 41 4 k, .grow 45 2 0] ++ M) := ⟨_, rfl⟩; refine QI I ?_ (m := c.vals.length) ?_
 ·intro m' s hs; rw [hI] at hs; obtain ⟨tm, hp⟩ := s; dsimp only at hs; obtain ⟨k, M, rfl, hk, t2, t3, t8, t9, t10, t11, t12, rfl⟩ := hs
  by_cases hlt : k < c.vals.length
  ·have ca := YW B (by omega) 1000000 (by omega) (c.vals[k]) (by have := XT hlt; omega)
   have hm1 : k + 1 ≤ maxLen := by simp only [maxLen]; omega
   have hm2 : (k + 1) * 56 ≤ 140737488355328 := by omega
   have hsl : (XK B (c.vals.take k)).length = k := by rw [YV, List.length_take]; omega
   repeat (first | ((first | (with_reducible (first | refine Qa fun K E hK hE => ?_ | refine Qk fun K E hK hE => ?_ | refine Qz ca ?_)) | (refine QG (id := 7) [(0, 0), (1, 0), (2, 0), (3, 0), (4, 0), (5, 0), (6, 0), (7, 1), (8, 0), (9, 2), (10, 0), (11, 2)] mixed (by kernel_rfl) fun K hK => ?_)); simp -implicitDefEqProofs only [Qe, Qf, OpW, aop, undef, AS.ev, AV.Qot, ↓reduceIte, Qo, QB, QC, QO, QF, Qt, aBin, QM, aLen, Xh, XH, goInt, ti29, ei29, ai29, un29, Qas, ti41, zi41, t2, t9, t10, t12, hlt, Xd hlt, hsl, hm1, hm2, seval]) | (with_reducible (first | refine Qc fun K hK => ?_ | refine Qi ?_ | refine Qm ?_ | refine Qb ?_ | refine Qn ?_)) | ((with_reducible refine hK _ ?_); clear hK) | (refine Qg rfl ?_; simp only [↓reduceIte]))
   refine QW.mk (m' := c.vals.length - (k + 1)) (by omega) ?_
   rw [hI]
   refine ⟨k + 1, M, rfl, hlt, t2, t3, t8, t9, t10, t11, ?_, ?_⟩
   ·simp only [upd, ↓reduceIte]
    rw [QN (by omega)]
   ·rw [YP hlt, Yp, Zp]; simp
  ·have hkl : k = c.vals.length := by omega
   subst hkl
   rw [List.take_length]
   repeat (first | (((with_reducible refine Qa fun K E hK hE => ?_)); simp -implicitDefEqProofs only [Qe, Qf, OpW, aop, AS.ev, ↓reduceIte, aBin, aLen, goInt, un29, t2, t12, hlt, seval]) | (with_reducible (first | refine Qc fun K hK => ?_ | refine Qi ?_ | refine QA ?_ | refine Qb ?_ | refine Qu ?_ | refine Qv ?_)) | ((with_reducible refine hK _ ?_); clear hK) | (clear hK; (with_reducible refine hK _ ?_); clear hK) | (refine Qg rfl ?_; simp only [↓reduceIte, Qpc]))
   obtain ⟨I, hI⟩ : ∃ I : Nat → AS → Prop, I = fun m' s => ∃ (k : Nat) (M : AH), m' = c.store.length - k ∧ k ≤ c.store.length ∧ s.tm 3 = .sl 2 (vs G.atom c.store) none ∧ s.tm 8 = .ptr h.length 0 0 ∧ s.tm 9 = .sl 5 (bavs B) none ∧ s.tm 10 = .ptr (h.length + 1) 0 0 ∧ s.tm 11 = .sl 2 (vs G.atom ((c.store.take k).map (subG B))) (some (h.length + 3)) ∧ s.tm 13 = .i k ∧
     s.h = h ++ ([.cells 32 3 [.agg [.v (.bool false), .v (.slice none 0 0), .v (.slice none 0 0)]], .cells 32 3 [.agg [.v (.bool false), .sl 4 (avs (XK B c.vals)) (some (h.length + 2)), .v (.slice none 0 0)]], .grow 41 4 c.vals.length, .grow 45 2 k] ++ M) := ⟨_, rfl⟩; refine QI I ?_ (m := c.store.length) ?_
   ·intro m' s hs; rw [hI] at hs; obtain ⟨tm, hp⟩ := s; dsimp only at hs; obtain ⟨k, M, rfl, hk, t3, t8, t9, t10, t11, t13, rfl⟩ := hs
    by_cases hlt : k < c.store.length
    ·have ca := ZC B (by omega) (c.store[k]) (by have := ZJ hlt; omega)
     have hm1 : k + 1 ≤ maxLen := by simp only [maxLen]; omega
     have hm2 : (k + 1) * 40 ≤ 140737488355328 := by omega
     have hsl : ((c.store.take k).map (subG B)).length = k := by rw [List.length_map, List.length_take]; omega
     repeat (first | ((first | (with_reducible (first | refine Qa fun K E hK hE => ?_ | refine Qk fun K E hK hE => ?_ | refine Qp ca ?_))); simp -implicitDefEqProofs only [Qe, Qf, OpW, QJ, aop, AS.ev, AV.Qot, ↓reduceIte, QB, QC, Qt, aBin, QM, aLen, Xh, XH, goInt, ei30, ai30, un30, ti45, zi45, t3, t9, t11, t13, hlt, QP, Xw G.atom hlt, QR, Q4, hsl, hm1, hm2, seval]) | (with_reducible (first | refine Qc fun K hK => ?_ | refine Qi ?_ | refine Qm ?_ | refine Qb ?_ | refine Qn ?_)) | ((with_reducible refine hK _ ?_); clear hK) | (refine Qg rfl ?_; simp only [↓reduceIte]))
     refine QW.mk (m' := c.store.length - (k + 1)) (by omega) ?_
     rw [hI]
     refine ⟨k + 1, M, rfl, hlt, t3, t8, t9, t10, ?_, ?_, rfl⟩
     ·simp only [upd, ↓reduceIte, Nat.reduceEqDiff]
      rw [List.take_succ_eq_append_getElem hlt, List.map_append, QcT]; rfl
     ·simp only [upd, ↓reduceIte]
      rw [QN (by omega)]
    ·have hkl : k = c.store.length := by omega
     subst hkl
     rw [List.take_length] at t11
     have cs' := Yx (args := [AV.sl 2 (vs G.atom (c.store.map (subG B))) (some (h.length + 3))]) (.cons (.sl rfl (fun y hy => by simp only [vs, List.mem_map] at hy; obtain ⟨t, _, rfl⟩ := hy; rfl) (.refl _)) .nil) cs
     repeat (first | ((first | (with_reducible (first | refine Qa fun K E hK hE => ?_ | refine Qp cs' ?_))); simp -implicitDefEqProofs only [Qe, Qf, OpW, QJ, aop, undef, AS.ev, AV.Qot, ↓reduceIte, Qo, QB, QC, QO, QF, aBin, aLen, goInt, ti30, un30, ti32, YU, t3, t8, t10, t11, t13, hlt, QP, seval]) | (with_reducible (first | refine Qc fun K hK => ?_ | refine Qj ?_ | refine QA ?_ | refine Qb ?_ | refine Qu ?_ | refine Qv ?_)) | ((with_reducible refine hK _ ?_); clear hK) | (clear hK; (with_reducible refine hK _ ?_); clear hK) | (refine Qg rfl ?_; simp only [↓reduceIte, Qpc]))
     simp -implicitDefEqProofs only [Qe, ↓reduceIte, QB, QC, ti32, t8, QD, Ql, Qr, Qpi, seval]
     exact Qd (r' := An.av ⟨false, XK B c.vals, Yq cmpG (c.store.map (subG B))⟩) (htake _ _) (.agg rfl (QZ (.keep (.v _)) (QZ (.tok (Yh _ _)) (Xz (.keep (ZL G.atom _ 2 (Yw _) _)))))) ⟨rfl, rfl⟩
   ·rw [hI]
    exact ⟨0, M, by omega, Nat.zero_le _, t3, t8, t9, t10, t11, rfl, rfl⟩
 ·rw [hI]
  exact ⟨0, [], by omega, Nat.zero_le _, rfl, rfl, rfl, rfl, rfl, by simp only [upd, ↓reduceIte]; simp, rfl, by simp [XK, avs]⟩
end Go.Proofs.YtniljpjjnmkoaaaGreatDoor.Ab
set_option maxRecDepth 4000
namespace Go.Proofs.YtniljpjjnmkoaaaGreatDoor.Ab
open Go.Proofs
def ZH (E : List (List Int)) : List AV := E.map fun p => .sl 1 (ints p) none
theorem Ye (E : List (List Int)) : (ZH E).length = E.length := List.length_map _
theorem QfL (D E : List (List Int)) : ZH (D ++ E) = ZH D ++ ZH E := List.map_append
theorem Qgd {E : List (List Int)} {k : Nat} (h : k < E.length) : (ZH E)[k]? = some (.sl 1 (ints E[k]) none) := by
 rw [ZH, List.getElem?_map, List.getElem?_eq_getElem h]; rfl
theorem QbI (E : List (List Int)) : ∀ x ∈ ZH E, x.cells = [x] := fun x hx => by
 obtain ⟨p, _, rfl⟩ := List.mem_map.1 hx; rfl
theorem Z2 (m : Nat) (E : List (List Int)) : ∀ a ∈ flat (ZH E), Below m a := fun a ha => by
 rw [Qbd (QbI E)] at ha
 obtain ⟨p, _, rfl⟩ := List.mem_map.1 ha
 exact .sl 1 _ none (XW m p) (fun b hb => by cases hb)
theorem Qiz (l : List Int) (k : Nat) : (ints l).take k = ints (l.take k) := by simp only [ints, List.map_take]
theorem Qid (l : List Int) (k : Nat) : (ints l).drop k = ints (l.drop k) := by simp only [ints, List.map_drop]
def fct : Nat → Nat
 | 0 => 1
 | k + 1 => (k + 1) * fct k
theorem QaY {α β : Type} {f : α → List β} {m : Nat} : ∀ {l : List α}, (∀ x ∈ l, (f x).length = m) → (l.flatMap f).length = l.length * m
 | [], _ => by simp
 | x :: l, h => by
  rw [List.flatMap_cons, List.length_append, h x (by simp), QaY fun y hy => h y (by simp [hy]), List.length_cons, Nat.add_mul]; omega
theorem Qbs : ∀ (k : Nat) (l : List Int), l.length = k → (QbF k l).length = fct k
 | 0, _, _ => rfl
 | k + 1, l, hl => by
  rw [QbF, QaY (m := fct k), List.length_range, hl]; rfl
  intro i hi
  rw [List.length_map, Qbs k _ (by rw [List.length_eraseIdx_of_lt (List.mem_range.1 hi)]; omega)]
theorem Qmc : ∀ k, k ≤ 6 → fct k ≤ 720 := by decide
def pre (k : Nat) (l : List Int) (i : Nat) : List (List Int) := (List.range i).flatMap fun j => (QbF k (l.eraseIdx j)).map fun t => l.getD j 0 :: t
theorem QkS (k : Nat) (l : List Int) (i : Nat) : pre k l (i + 1) = pre k l i ++ (QbF k (l.eraseIdx i)).map fun t => l.getD i 0 :: t := by
 rw [pre, List.range_succ, List.flatMap_append]; simp [pre]
theorem QmV {k : Nat} {l : List Int} (hl : l.length = k + 1) {i : Nat} (hi : i ≤ k + 1) : (pre k l i).length = i * fct k := by
 rw [pre, QaY (m := fct k), List.length_range]
 intro j hj
 rw [List.length_map, Qbs k _ (by rw [List.length_eraseIdx_of_lt (by have := List.mem_range.1 hj; omega)]; omega)]
theorem QaM : ∀ (k : Nat), k ≤ 6 → ∀ l : List Int, l.length = k → Pure Tryz.prog 66 [.sl 1 (ints l) none] (.sl 1 (ZH (QbF k l)) none)
 | 0, _, l, hl => by
  intro h
  have e : l = [] := List.length_eq_zero_iff.1 hl
  subst e
  have z0 : ints [] = [] := rfl
  refine Qh Tryz.func66 rfl Tryz.call66 Tryz.ntmps66 (congrArg Array.toList Tryz.results66) (by simp) ?_
  have z1 : ((0 : Int) == 0) = true := rfl
  iterate 6 (try (first | (((with_reducible refine Qa fun K E hK hE => ?_)); simp -implicitDefEqProofs only [Qe, Qf, OpW, aop, undef, AS.ev, Qy, ↓reduceIte, aBin, aLen, goInt, un49, z0, seval]) | (with_reducible refine Qc fun K hK => ?_) | ((with_reducible refine hK _ ?_); clear hK) | (refine Qg rfl ?_; simp only [↓reduceIte])))
  refine Yu (fun s => s.tm 2 = .sl 1 [.v (.slice none 0 0)] none ∧ s.h = h) ?_ ?_
  ·rintro ⟨tm, hp⟩ ⟨t2, rfl⟩
   dsimp only at t2
   refine Qa0 2 t2 (w := .sl 1 [.sl 1 [] none] none) (.sl rfl (by simp [AV.cells]) (.cons (.nilS 1) .nil)) ?_
   repeat (first | (with_reducible (first | refine Qj ?_ | refine Qq ?_)))
   simp only [QD, Ql, Qr, upd, ↓reduceIte, Qpe, Qpi]; first | refine Qd (htake _ _) (.keep (.sl 1 _ none (Z2 _ [[]]) (fun b hb => by cases hb))) ⟨rfl, rfl⟩ | refine Qd List.take_length (.keep (.sl 1 _ none (Z2 _ [[]]) (fun b hb => by cases hb))) ⟨rfl, rfl⟩
  ·repeat (first | (((with_reducible refine Qk fun K E hK hE => ?_)); simp -implicitDefEqProofs only [Qe, Qf, OpW, aop, undef, AS.ev, Qy, AV.Qot, ↓reduceIte, QM, zi49, Qi6, seval]) | (with_reducible refine Qb ?_) | ((with_reducible refine hK _ ?_); clear hK))
   exact ⟨rfl, rfl⟩
 | k + 1, hk, l, hl => by
  intro h
  have ih := QaM k (by omega)
  have hnz : (((l.length : Nat) : Int) == 0) = false := by simpa using (by omega : ¬ l.length = 0)
  refine Qh Tryz.func66 rfl Tryz.call66 Tryz.ntmps66 (congrArg Array.toList Tryz.results66) (by simp) ?_
  repeat (first | (((with_reducible refine Qa fun K E hK hE => ?_)); simp -implicitDefEqProofs only [Qe, Qf, OpW, aop, undef, AS.ev, Qy, ↓reduceIte, aBin, aLen, goInt, un49, hnz, seval]) | (with_reducible (first | refine Qc fun K hK => ?_ | refine Qi ?_ | refine Qm ?_ | refine Qb ?_)) | ((with_reducible refine hK _ ?_); clear hK) | (refine Qg rfl ?_; simp only [↓reduceIte, Qpc]))
  refine XG 3 49 1 rfl ?_
  obtain ⟨I, hI⟩ : ∃ I : Nat → AS → Prop, I = fun m' s => ∃ (i : Nat) (xs : List AV) (M : AH), m' = l.length - i ∧ i ≤ l.length ∧ WkL xs (ZH (pre k l i)) ∧ (∀ x ∈ xs, x.cells = [x]) ∧ s.tm 0 = .sl 1 (ints l) none ∧ s.tm 3 = .sl 1 xs (some h.length) ∧ s.tm 4 = .i i ∧ s.h = h ++ ([.grow 49 1 xs.length] ++ M) := ⟨_, rfl⟩; refine QI I ?_ (m := l.length) ?_
  ·have hO := hI
   intro m' s hs; rw [hI] at hs; obtain ⟨tm, hp⟩ := s; dsimp only at hs; obtain ⟨i, xs, M, rfl, hi, hx, ho, t0, t3, t4, rfl⟩ := hs
   by_cases hlt : i < l.length
   ·have er : l.eraseIdx i = l.take i ++ l.drop (i + 1) := List.eraseIdx_eq_take_drop_succ ..
    have hrl : (l.eraseIdx i).length = k := by rw [List.length_eraseIdx_of_lt hlt]; omega
    have hE := Qbs k (l.eraseIdx i) hrl
    have hf := Qmc k (by omega)
    have c1 := ih (l.eraseIdx i) hrl
    generalize hEE : QbF k (l.eraseIdx i) = EE at c1 hE
    have c1' : ∀ own, Pure Tryz.prog 66 [.sl 1 (ints (l.take i) ++ ints (l.drop (i + 1))) own] (.sl 1 (ZH EE) none) := fun own => by
     rw [← XB, ← er]
     exact Yx (.cons (.sl rfl (fun y hy => by rw [ints, List.mem_map] at hy; obtain ⟨t, _, rfl⟩ := hy; rfl) (.refl _)) .nil) c1
    have b0 : (i : Int) ≤ l.length := by omega
    have w1 : IntKind.i64.wrap ((i : Int) + 1) = ((i + 1 : Nat) : Int) := by rw [QN (by omega)]
    have lt : (l.take i).length = i := by rw [List.length_take]; omega
    have ld : (l.drop (i + 1)).length = k - i := by rw [List.length_drop]; omega
    have tt : (((l.length : Nat) : Int) - ((i + 1 : Nat) : Int)).toNat = l.length - (i + 1) := by omega
    have tk : (l.drop (i + 1)).take (l.length - (i + 1)) = l.drop (i + 1) := List.take_of_length_le (by rw [List.length_drop]; exact Nat.le_refl _)
    have m0 : i ≤ maxLen := by simp only [maxLen]; omega
    have m1 : i * 8 ≤ 140737488355328 := by omega
    have m2 : i + (k - i) ≤ maxLen := by simp only [maxLen]; omega
    have m3 : (i + (k - i)) * 8 ≤ 140737488355328 := by omega
    have hi1 : i + 1 ≤ l.length := hlt
    have il : ¬ ((i : Int) = (l.length : Int)) := by omega
    have y0 : ¬ (((i + 1 : Nat) : Int) = 0) := by omega
    repeat (first | ((first | (with_reducible (first | refine Qa fun K E hK hE => ?_ | refine Qp (c1' _) ?_))); simp -implicitDefEqProofs only [Qe, Qf, OpW, QJ, aop, AS.ev, ↓reduceIte, aBin, YL, Q9, aLen, Xh, XH, goInt, ei49, ai49, un49, QpV, Int.sub_zero, t0, t4, hlt, Qiz, Qid, il, y0, b0, w1, lt, ld, tt, tk, m0, m1, m2, m3, hi1, seval]) | (with_reducible (first | refine Qc fun K hK => ?_ | refine Qi ?_ | refine Qm ?_ | refine Qb ?_)) | ((with_reducible refine hK _ ?_); clear hK) | (refine Qg rfl ?_; simp only [↓reduceIte]))
    obtain ⟨I, hI⟩ : ∃ I : Nat → AS → Prop, I = fun m' s => ∃ (j : Nat) (ys : List AV) (M : AH), m' = EE.length - j ∧ j ≤ EE.length ∧ WkL ys (ZH (pre k l i ++ (EE.take j).map fun t => l.getD i 0 :: t)) ∧ (∀ x ∈ ys, x.cells = [x]) ∧ s.tm 0 = .sl 1 (ints l) none ∧ s.tm 3 = .sl 1 ys (some h.length) ∧ s.tm 4 = .i i ∧ s.tm 6 = .sl 1 (ZH EE) none ∧ s.tm 7 = .i j ∧ s.h = h ++ ([.grow 49 1 ys.length] ++ M) := ⟨_, rfl⟩; refine QI I ?_ (m := EE.length) ?_
    ·intro m' s hs; rw [hI] at hs; obtain ⟨tm, hp⟩ := s; dsimp only at hs; obtain ⟨j, ys, M, rfl, hj, hy, hyo, t0, t3, t4, t6, t7, rfl⟩ := hs
     by_cases hjl : j < EE.length
     ·have g1 : (ints l)[i]? = some (.i l[i]) := XQ hlt
      have gE : (ZH EE)[j]? = some (.sl 1 (ints EE[j]) none) := Qgd hjl
      have hel : (EE[j]).length ≤ 6 := by
       have hm : EE[j] ∈ QbF k (l.eraseIdx i) := by rw [hEE]; exact List.getElem_mem hjl
       have := ((Qba k _ _ hrl).1 hm).length_eq
       omega
      have hyl : ys.length ≤ 10000 := by
       rw [hy.1, Ye, List.length_append, QmV hl (by omega), List.length_map, List.length_take]
       have h1 : i * fct k ≤ 6 * 720 := Nat.mul_le_mul (by omega) hf
       omega
      have n1 : 1 + (EE[j]).length ≤ maxLen := by simp only [maxLen]; omega
      have n2 : (1 + (EE[j]).length) * 8 ≤ 140737488355328 := by omega
      have n3 : ys.length + 1 ≤ maxLen := by simp only [maxLen]; omega
      have n4 : (ys.length + 1) * 24 ≤ 140737488355328 := by omega
      repeat (first | ((first | (with_reducible (first | refine Qa fun K E hK hE => ?_ | refine Qk fun K E hK hE => ?_)) | (refine QG (id := 14) [(0, 0), (1, 0), (2, 0), (3, 0), (4, 0), (6, 0), (7, 0), (8, 0), (9, 0), (5, 5), (10, 2), (11, 0), (12, 2), (13, 0)] mixed (by kernel_rfl) fun K hK => ?_)); simp -implicitDefEqProofs only [Qe, Qf, OpW, aop, AS.ev, AV.Qot, ↓reduceIte, QB, QC, Qt, aBin, QM, aLen, Xh, XH, goInt, ti3, zi3, ti49, ei49, ai49, zi49, Qi6, Qoh, Qjn, tokA, Option.isSome_some, t0, t3, t4, t6, t7, hjl, hlt, Ye, g1, gE, n1, n2, n3, n4, seval]) | (with_reducible (first | refine Qc fun K hK => ?_ | refine Qi ?_ | refine Qm ?_ | refine Qb ?_ | refine Qn ?_)) | ((with_reducible refine hK _ ?_); clear hK) | (refine Qg rfl ?_; simp only [↓reduceIte]))
      refine QW.mk (m' := EE.length - (j + 1)) (by omega) ?_
      rw [hI]
      refine ⟨j + 1, _, M ++ [.grow 3 1 (1 + (EE[j]).length)], rfl, hjl, ?_, ?_, t0, rfl, t4, t6, ?_, ?_⟩
      rotate_left 3
      ·simp only [QpZ, Qpl, Qpm]; rfl
      ·rw [List.take_succ_eq_append_getElem hjl, List.map_append, ← List.append_assoc, QfL]
       refine .append hy (.cons ?_ .nil)
       rw [getD_lt hlt]
       exact .sl rfl (fun y hy => by rw [ints, List.mem_map] at hy; obtain ⟨t, _, rfl⟩ := hy; rfl) (.refl _)
      ·intro x hx
       rcases List.mem_append.1 hx with hx | hx
       ·exact hyo x hx
       ·rw [List.mem_singleton] at hx; subst hx; rfl
      ·simp only [upd, ↓reduceIte]
       rw [QN (by omega)]
     ·have hje : j = EE.length := by omega
      subst hje
      rw [List.take_length] at hy
      repeat (first | ((first | (with_reducible (first | refine Qa fun K E hK hE => ?_ | refine Qk fun K E hK hE => ?_))); simp -implicitDefEqProofs only [Qe, Qf, OpW, aop, AS.ev, ↓reduceIte, aBin, aLen, goInt, Qjn, t4, t6, t7, hjl, Ye, seval]) | (with_reducible (first | refine Qc fun K hK => ?_ | refine QA ?_ | refine Qb ?_ | refine Qu ?_ | refine Qn ?_ | refine Qv ?_)) | ((with_reducible refine hK _ ?_); clear hK) | (clear hK; (with_reducible refine hK _ ?_); clear hK) | (refine Qg rfl ?_; simp only [↓reduceIte, Qpc]))
      refine QW.mk (m' := l.length - (i + 1)) (by omega) ?_
      rw [hO]
      refine ⟨i + 1, ys, M, rfl, hlt, ?_, hyo, t0, t3, ?_, rfl⟩
      ·rw [QkS, hEE]; exact hy
      ·simp only [upd, ↓reduceIte]; rw [QN (by omega)]
    ·rw [hI]
     exact ⟨0, xs, _, by omega, Nat.zero_le _, by simpa using hx, ho, t0, t3, t4, rfl, rfl, by simp; rfl⟩
   ·have hil : i = l.length := by omega
    have hx2 : Wk (AV.sl 1 xs (some h.length)) (.sl 1 (ZH (QbF (k + 1) l)) none) := .sl (by rw [hx.1, hil]; rfl) (fun y hy => by rw [QbI _ y hy]; rfl) (by rw [Qbd ho, Qbd (QbI _)]; have := hx; rw [hil] at this; exact this)
    refine Qa0 3 t3 hx2 ?_
    repeat (first | (((with_reducible refine Qa fun K E hK hE => ?_)); simp -implicitDefEqProofs only [Qe, Qf, OpW, aop, AS.ev, ↓reduceIte, aBin, aLen, goInt, un49, t0, t4, hlt, seval]) | (with_reducible (first | refine Qc fun K hK => ?_ | refine Qj ?_ | refine QA ?_ | refine Qb ?_ | refine Qu ?_ | refine Qv ?_)) | ((with_reducible refine hK _ ?_); clear hK) | (clear hK; (with_reducible refine hK _ ?_); clear hK) | (refine Qg rfl ?_; simp only [↓reduceIte, Qpc]))
    simp only [QD, Ql, Qr, upd, ↓reduceIte, Qpe, Qpi]; first | refine Qd (htake _ _) (.keep (.sl 1 _ none (Z2 _ _) (fun b hb => by cases hb))) ⟨rfl, rfl⟩ | refine Qd List.take_length (.keep (.sl 1 _ none (Z2 _ _) (fun b hb => by cases hb))) ⟨rfl, rfl⟩
  ·rw [hI]
   exact ⟨0, [], [], by omega, Nat.zero_le _, .nil, by simp, rfl, rfl, rfl, by simp⟩
end Go.Proofs.YtniljpjjnmkoaaaGreatDoor.Ab
set_option maxRecDepth 4000
namespace Go.Proofs.YtniljpjjnmkoaaaGreatDoor.Ab
open Go.Proofs
def ofR (n : Int) (b : List (Int × T)) (l : List It) (failed : Bool) : An × Int :=
 if ZF n b l = true then (An.nil, 2) else if failed = true then (⟨true, [], []⟩, 0) else
 if (QV b l).any (fun g => !QX g) = true then (An.nil, 6) else
 if 6 < (Xu n (valsOf b n.toNat) (QV b l)).length then (An.nil, 15) else
 (⟨false, (Qdm n ⟨valsOf b n.toNat, QV b l⟩ (ords (Xu n (valsOf b n.toNat) (QV b l)))).vals, (Qdm n ⟨valsOf b n.toNat, QV b l⟩ (ords (Xu n (valsOf b n.toNat) (QV b l)))).store⟩, 0)
theorem Qdt (n : Int) (b : List (Int × T)) (l : List It) (failed : Bool) (H : SmallC b l) (hbad : n < 0 ∨ n > 100 ∨ XF b = false) :
  Pure Tryz.prog 25 [.i n, .sl 5 (bavs b) none, .sl 3 (vs It.av l) none, .v (.bool failed)] (.tup [(ofR n b l failed).1.av, .i (ofR n b l failed).2]) := by
 intro h
 have hb : ZF n b l = true := by
  rcases hbad with h | h | h
  ·simp [ZF, h]
  ·simp [ZF, show (100 < n) from h]
  ·simp [ZF, h]
 have e : ofR n b l failed = (An.nil, 2) := by rw [ofR, if_pos hb]
 rw [e]
 have hz : ∀ own : AH, Frz (h ++ own) h.length (.tup [.agg [.v (.bool false), .v (.slice none 0 0), .v (.slice none 0 0)], .i 2]) (.tup [An.nil.av, .i 2]) := fun own =>
  .tup rfl (QZ (.agg rfl (QZ (.keep (.v _)) (QZ (.nil 4) (Xz (.nil 2))))) (Xz (.keep (.v _))))
 have c1 := QaP b (by have := H.b1; omega) (fun x hx => by have := H.b2 x hx; omega) H.b3
 by_cases k1 : n < 0
 ·refine Qh Tryz.func25 rfl Tryz.call25 Tryz.ntmps25 (congrArg Array.toList Tryz.results25) (by simp) ?_
  repeat (first | (((with_reducible refine Qa fun K E hK hE => ?_)); simp -implicitDefEqProofs only [Qe, Qf, OpW, aop, undef, AS.ev, Qy, AV.Qot, ↓reduceIte, QO, QF, aBin, Xv, XO, ti32, zi32, sp32, k1, seval]) | (with_reducible (first | refine Qc fun K hK => ?_ | refine Qj ?_ | refine Qq ?_)) | ((with_reducible refine hK _ ?_); clear hK) | (refine Qg rfl ?_; simp only [↓reduceIte]))
  simp -implicitDefEqProofs only [Qe, ↓reduceIte, QB, QC, ti32, List.mapM_cons, List.mapM_nil, Option.pure_def, Option.bind_eq_bind, QD, Ql, Qr, Qpi, seval]
  exact Qd (htake _ _) (hz _) ⟨rfl, rfl⟩
 by_cases k2 : n > 100
 ·refine Qh Tryz.func25 rfl Tryz.call25 Tryz.ntmps25 (congrArg Array.toList Tryz.results25) (by simp) ?_
  repeat (first | (((with_reducible refine Qa fun K E hK hE => ?_)); simp -implicitDefEqProofs only [Qe, Qf, OpW, aop, undef, AS.ev, Qy, AV.Qot, ↓reduceIte, QO, QF, aBin, Xv, XO, ti32, zi32, sp32, k1, k2, seval]) | (with_reducible (first | refine Qc fun K hK => ?_ | refine Qj ?_ | refine Qq ?_)) | ((with_reducible refine hK _ ?_); clear hK) | (refine Qg rfl ?_; simp only [↓reduceIte]))
  simp -implicitDefEqProofs only [Qe, ↓reduceIte, QB, QC, ti32, List.mapM_cons, List.mapM_nil, Option.pure_def, Option.bind_eq_bind, QD, Ql, Qr, Qpi, seval]
  exact Qd (htake _ _) (hz _) ⟨rfl, rfl⟩
 have k3 : XF b = false := by
  rcases hbad with h | h | h
  ·exact absurd h k1
  ·exact absurd h k2
  ·exact h
 rw [k3] at c1
 refine Qh Tryz.func25 rfl Tryz.call25 Tryz.ntmps25 (congrArg Array.toList Tryz.results25) (by simp) ?_
 repeat (first | ((first | (with_reducible (first | refine Qa fun K E hK hE => ?_ | refine Qp c1 ?_))); simp -implicitDefEqProofs only [Qe, Qf, OpW, QJ, aop, undef, AS.ev, Qy, AV.Qot, ↓reduceIte, QO, QF, aBin, Xv, XO, ti32, zi32, sp32, k1, k2, seval]) | (with_reducible (first | refine Qc fun K hK => ?_ | refine Qj ?_ | refine Qq ?_)) | ((with_reducible refine hK _ ?_); clear hK) | (refine Qg rfl ?_; simp only [↓reduceIte]))
 simp -implicitDefEqProofs only [Qe, ↓reduceIte, QB, QC, ti32, List.mapM_cons, List.mapM_nil, Option.pure_def, Option.bind_eq_bind, QD, Ql, Qr, Qpi, seval]
 exact Qd (htake _ _) (hz _) ⟨rfl, rfl⟩
theorem QgX {α : Type} (c : α → α → Int) (x a : α) (l : List α) : Yb c x (l ++ [a]) = if c a (Yb c x l) < 0 then a else Yb c x l := by rw [Yb, List.foldl_append]; rfl
theorem QmF {b : List (Int × T)} {l : List It} (H : SmallC b l) (h4 : ∀ x ∈ l, x.atom.ok) : ∀ g ∈ QV b l, g.ok := fun g hg => by
 have h1 := H.QoX g hg
 obtain ⟨x, hx, rfl⟩ := List.mem_map.1 hg
 have := h4 x hx
 exact ⟨by show i64 0; unfold i64; omega, this.2.1, h1⟩
theorem QlE (N : Nat) (b : List (Int × T)) (l : List It) (failed : Bool) (H : SmallC b l) (h4 : ∀ x ∈ l, x.atom.ok) (hN : N ≤ 100) (k3 : XF b = true) :
  Pure Tryz.prog 25 [.i N, .sl 5 (bavs b) none, .sl 3 (vs It.av l) none, .v (.bool failed)] (.tup [(ofR N b l failed).1.av, .i (ofR N b l failed).2]) := by
 intro h
 have hl7 := H.l1
 have hb1 := H.b1
 have hz : ∀ (e : Int) (own : AH), Frz (h ++ own) h.length (.tup [.agg [.v (.bool false), .v (.slice none 0 0), .v (.slice none 0 0)], .i e]) (.tup [An.nil.av, .i e]) := fun e own =>
  .tup rfl (QZ (.agg rfl (QZ (.keep (.v _)) (QZ (.nil 4) (Xz (.nil 2))))) (Xz (.keep (.v _))))
 have c1 := QaP b (by omega) (fun x hx => by have := H.b2 x hx; omega) H.b3
 rw [k3] at c1
 have k1 : ¬ ((N : Int) < 0) := by omega
 have k2 : ¬ ((N : Int) > 100) := by omega
 refine Qh Tryz.func25 rfl Tryz.call25 Tryz.ntmps25 (congrArg Array.toList Tryz.results25) (by simp) ?_
 repeat (first | ((first | (with_reducible (first | refine Qa fun K E hK hE => ?_ | refine Qp c1 ?_))); simp -implicitDefEqProofs only [Qe, Qf, OpW, QJ, aop, undef, AS.ev, Qy, AV.Qot, ↓reduceIte, aBin, zi32, k1, k2, seval]) | (with_reducible (first | refine Qc fun K hK => ?_ | refine Qi ?_ | refine Qm ?_ | refine Qb ?_)) | ((with_reducible refine hK _ ?_); clear hK) | (refine Qg rfl ?_; simp only [↓reduceIte, Qpc]))
 obtain ⟨I, hI⟩ : ∃ I : Nat → AS → Prop, I = fun m' s => ∃ (k : Nat) (M : AH), m' = l.length - k ∧ k ≤ l.length ∧ (∀ x ∈ l.take k, ZP x = false) ∧ s.tm 0 = .i N ∧ s.tm 1 = .sl 5 (bavs b) none ∧ s.tm 2 = .sl 3 (vs It.av l) none ∧ s.tm 3 = .v (.bool failed) ∧ s.tm 8 = .ptr h.length 0 0 ∧ s.tm 10 = .i k ∧
   s.h = h ++ ([.cells 32 3 [.agg [.v (.bool false), .v (.slice none 0 0), .v (.slice none 0 0)]]] ++ M) := ⟨_, rfl⟩; refine QI I ?_ (m := l.length) ?_
 ·intro m' s hs; rw [hI] at hs; obtain ⟨tm, hp⟩ := s; dsimp only at hs; obtain ⟨k, M, rfl, hk, hall, t0, t1, t2, t3, t8, t10, rfl⟩ := hs
  by_cases hlt : k < l.length
  ·have hx := List.getElem_mem hlt
   have h50 := H.l2 _ hx
   have ca : Pure Tryz.prog 19 [.agg [.v (.string (l[k]).atom.name), .sl 4 (avs (l[k]).atom.args) none]] (.b (QX (l[k]).atom)) := Zy (l[k]).atom (by omega) (h4 _ hx)
   cases hr : QX (l[k]).atom with
   | false =>
    rw [hr] at ca
    have e : ofR N b l failed = (An.nil, 2) := by
     rw [ofR, if_pos]
     have : l.any ZP = true := List.any_eq_true.2 ⟨_, hx, by rw [ZP, hr]; rfl⟩
     simp [ZF, this]
    repeat (first | ((first | (with_reducible (first | refine Qa fun K E hK hE => ?_ | refine Qp ca ?_))); simp -implicitDefEqProofs only [Qe, Qf, OpW, QJ, aop, undef, AS.ev, AV.Qot, ↓reduceIte, Qo, QB, QC, QO, QF, Qt, aBin, Xv, XO, aLen, goInt, ei24, un24, ti32, zi32, sp32, ti45, Qbe, t2, t8, t10, hlt, QP, Xw It.av hlt, It.cells, It.isAgg, seval]) | (with_reducible (first | refine Qc fun K hK => ?_ | refine Qi ?_ | refine Qj ?_ | refine Qm ?_ | refine Qb ?_ | refine Qq ?_ | refine Qs ?_)) | ((with_reducible refine hK _ ?_); clear hK) | (refine Qg rfl ?_; simp only [↓reduceIte]))
    simp -implicitDefEqProofs only [Qe, ↓reduceIte, QB, QC, ti32, t8, List.mapM_cons, List.mapM_nil, Option.pure_def, Option.bind_eq_bind, QD, Ql, Qr, Qpi, seval]
    rw [e]
    exact Qd (htake _ _) (hz _ _) ⟨rfl, rfl⟩
   | true =>
    rw [hr] at ca
    repeat (first | ((first | (with_reducible (first | refine Qa fun K E hK hE => ?_ | refine Qk fun K E hK hE => ?_ | refine Qp ca ?_))); simp -implicitDefEqProofs only [Qe, Qf, OpW, QJ, aop, AS.ev, ↓reduceIte, Qo, QB, QC, Qt, aBin, aLen, goInt, ei24, un24, ti45, Qbe, t2, t10, hlt, QP, Xw It.av hlt, It.cells, It.isAgg, seval]) | (with_reducible (first | refine Qc fun K hK => ?_ | refine Qi ?_ | refine Qm ?_ | refine Qb ?_ | refine Qn ?_)) | ((with_reducible refine hK _ ?_); clear hK) | (refine Qg rfl ?_; simp only [↓reduceIte, Qpc]))
    refine QW.mk (m' := l.length - (k + 1)) (by omega) ?_
    rw [hI]
    refine ⟨k + 1, M, rfl, hlt, ?_, t0, t1, t2, t3, t8, ?_, rfl⟩
    ·intro x hx
     rw [List.take_succ_eq_append_getElem hlt] at hx
     rcases List.mem_append.1 hx with hx | hx
     ·exact hall x hx
     ·rw [List.mem_singleton] at hx; subst hx; rw [ZP, hr]; rfl
    ·simp only [upd, ↓reduceIte]
     rw [QN (by omega)]
  ·have hkl : k = l.length := by omega
   subst hkl
   rw [List.take_length] at hall
   have hbad : ZF N b l = false := by
    have : l.any ZP = false := by
     rw [List.any_eq_false]; intro x hx; rw [hall x hx]; decide
    simp [ZF, this, k3]; omega
   cases failed with
   | true =>
    have e : ofR N b l true = (⟨true, [], []⟩, 0) := by rw [ofR, if_neg (by rw [hbad]; decide), if_pos rfl]
    repeat (first | (((with_reducible refine Qa fun K E hK hE => ?_)); simp -implicitDefEqProofs only [Qe, Qf, OpW, aop, undef, AS.ev, AV.Qot, ↓reduceIte, QO, QF, aBin, Xv, XO, aLen, goInt, un24, ti32, zi32, sp32, t2, t3, t8, t10, hlt, QP, seval]) | (with_reducible (first | refine Qc fun K hK => ?_ | refine Qj ?_ | refine QA ?_ | refine Qb ?_ | refine Qq ?_ | refine Qu ?_ | refine Qv ?_)) | ((with_reducible refine hK _ ?_); clear hK) | (clear hK; (with_reducible refine hK _ ?_); clear hK) | (refine Qg rfl ?_; simp only [↓reduceIte, Qpc]))
    simp -implicitDefEqProofs only [Qe, ↓reduceIte, QB, QC, ti32, t8, List.mapM_cons, List.mapM_nil, Option.pure_def, Option.bind_eq_bind, QD, Ql, Qr, Qpi, seval]
    rw [e]
    exact Qd (r' := .tup [(An.mk true [] []).av, .i 0]) (htake _ _) (.tup rfl (QZ (.agg rfl (QZ (.keep (.v _)) (QZ (.nil 4) (Xz (.nil 2))))) (Xz (.keep (.v _))))) ⟨rfl, rfl⟩
   | false =>
    have eO : ofR N b l false = (if (QV b l).any (fun g => !QX g) = true then (An.nil, 6) else
     if 6 < (Xu N (valsOf b N) (QV b l)).length then (An.nil, 15) else
     (⟨false, (Qdm N ⟨valsOf b N, QV b l⟩ (ords (Xu N (valsOf b N) (QV b l)))).vals, (Qdm N ⟨valsOf b N, QV b l⟩ (ords (Xu N (valsOf b N) (QV b l)))).store⟩, 0)) := by
     rw [ofR, if_neg (by rw [hbad]; decide), if_neg (by decide), Int.toNat_natCast]
    have hV := H.vals N
    have hS := H.store
    have hgs := QmF H h4
    have hsl := YG b l
    have cc := Qci N b l (by omega) H
    have co := QdL N (valsOf b N) (QV b l) (by omega)
    generalize hvv : valsOf b N = V at cc co hV eO
    generalize hss : QV b l = S at cc co hS eO hgs hsl
    generalize hoo : Xu N V S = O at co eO
    repeat (first | ((first | (with_reducible (first | refine Qa fun K E hK hE => ?_ | refine Qp cc ?_))); simp -implicitDefEqProofs only [Qe, Qf, OpW, QJ, aop, AS.ev, ↓reduceIte, aBin, Xk, aLen, goInt, un24, t0, t1, t2, t3, t10, hlt, QP, seval]) | (with_reducible (first | refine Qc fun K hK => ?_ | refine Qi ?_ | refine Qm ?_ | refine QA ?_ | refine Qb ?_ | refine Qu ?_ | refine Qv ?_)) | ((with_reducible refine hK _ ?_); clear hK) | (clear hK; (with_reducible refine hK _ ?_); clear hK) | (refine Qg rfl ?_; simp only [↓reduceIte, Qpc]))
    obtain ⟨I, hI⟩ : ∃ I : Nat → AS → Prop, I = fun m' s => ∃ (k : Nat) (M : AH), m' = S.length - k ∧ k ≤ S.length ∧ (∀ g ∈ S.take k, QX g = true) ∧ s.tm 0 = .i N ∧ s.tm 11 = .sl 4 (avs V) none ∧ s.tm 12 = .sl 2 (vs G.atom S) none ∧ s.tm 8 = .ptr h.length 0 0 ∧ s.tm 13 = .i k ∧
      s.h = h ++ ([.cells 32 3 [.agg [.v (.bool false), .v (.slice none 0 0), .v (.slice none 0 0)]]] ++ M) := ⟨_, rfl⟩; refine QI I ?_ (m := S.length) ?_
    ·intro m' s hs; rw [hI] at hs; obtain ⟨tm, hp⟩ := s; dsimp only at hs; obtain ⟨k, M, rfl, hk, hall, t0, t11, t12, t8, t13, rfl⟩ := hs
     by_cases hlt : k < S.length
     ·have hx := List.getElem_mem hlt
      have ca := Zy S[k] (by have := ZJ hlt; omega) (hgs _ hx)
      cases hr : QX S[k] with
      | false =>
       rw [hr] at ca
       rw [if_pos (List.any_eq_true.2 ⟨_, hx, by rw [hr]; rfl⟩)] at eO
       repeat (first | ((first | (with_reducible (first | refine Qa fun K E hK hE => ?_ | refine Qp ca ?_))); simp -implicitDefEqProofs only [Qe, Qf, OpW, QJ, aop, undef, AS.ev, AV.Qot, ↓reduceIte, QB, QC, QO, QF, Qt, aBin, Xv, XO, aLen, goInt, ei30, un30, ti32, zi32, sp32, ti45, t12, t8, t13, hlt, QP, Xw G.atom hlt, QR, Q4, seval]) | (with_reducible (first | refine Qc fun K hK => ?_ | refine Qi ?_ | refine Qj ?_ | refine Qm ?_ | refine Qb ?_ | refine Qq ?_ | refine Qs ?_)) | ((with_reducible refine hK _ ?_); clear hK) | (refine Qg rfl ?_; simp only [↓reduceIte]))
       simp -implicitDefEqProofs only [Qe, ↓reduceIte, QB, QC, ti32, t8, List.mapM_cons, List.mapM_nil, Option.pure_def, Option.bind_eq_bind, QD, Ql, Qr, Qpi, seval]
       rw [eO]
       exact Qd (htake _ _) (hz _ _) ⟨rfl, rfl⟩
      | true =>
       rw [hr] at ca
       repeat (first | ((first | (with_reducible (first | refine Qa fun K E hK hE => ?_ | refine Qk fun K E hK hE => ?_ | refine Qp ca ?_))); simp -implicitDefEqProofs only [Qe, Qf, OpW, QJ, aop, AS.ev, ↓reduceIte, QB, QC, Qt, aBin, aLen, goInt, ei30, un30, ti45, t12, t13, hlt, QP, Xw G.atom hlt, QR, Q4, seval]) | (with_reducible (first | refine Qc fun K hK => ?_ | refine Qi ?_ | refine Qm ?_ | refine Qb ?_ | refine Qn ?_)) | ((with_reducible refine hK _ ?_); clear hK) | (refine Qg rfl ?_; simp only [↓reduceIte, Qpc]))
       refine QW.mk (m' := S.length - (k + 1)) (by omega) ?_
       rw [hI]
       refine ⟨k + 1, M, rfl, hlt, ?_, t0, t11, t12, t8, ?_, rfl⟩
       ·intro x hx
        rw [List.take_succ_eq_append_getElem hlt] at hx
        rcases List.mem_append.1 hx with hx | hx
        ·exact hall x hx
        ·rw [List.mem_singleton] at hx; subst hx; exact hr
       ·simp only [upd, ↓reduceIte]
        rw [QN (by omega)]
     ·have hkl : k = S.length := by omega
      subst hkl
      rw [List.take_length] at hall
      rw [if_neg (by rw [List.any_eq_true]; rintro ⟨g, hg, hq⟩; rw [hall g hg] at hq; cases hq)] at eO
      by_cases h6 : 6 < O.length
      ·rw [if_pos h6] at eO
       have h6' : ((O.length : Nat) : Int) > 6 := by omega
       repeat (first | ((first | (with_reducible (first | refine Qa fun K E hK hE => ?_ | refine Qp co ?_))); simp -implicitDefEqProofs only [Qe, Qf, OpW, QJ, aop, undef, AS.ev, AV.Qot, ↓reduceIte, QO, QF, aBin, Xv, XO, aLen, goInt, un30, ti32, zi32, sp32, un49, t0, t11, t12, t8, t13, hlt, QP, h6', seval]) | (with_reducible (first | refine Qc fun K hK => ?_ | refine Qj ?_ | refine QA ?_ | refine Qb ?_ | refine Qq ?_ | refine Qu ?_ | refine Qv ?_)) | ((with_reducible refine hK _ ?_); clear hK) | (clear hK; (with_reducible refine hK _ ?_); clear hK) | (refine Qg rfl ?_; simp only [↓reduceIte, Qpc]))
       simp -implicitDefEqProofs only [Qe, ↓reduceIte, QB, QC, ti32, t8, List.mapM_cons, List.mapM_nil, Option.pure_def, Option.bind_eq_bind, QD, Ql, Qr, Qpi, seval]
       rw [eO]
       exact Qd (htake _ _) (hz _ _) ⟨rfl, rfl⟩
      ·rw [if_neg h6] at eO
       have h6' : ¬ ((O.length : Nat) : Int) > 6 := by omega
       have c66 := QaM O.length (by omega) O rfl
       have hfl := Qbs O.length O rfl
       have hf720 := Qmc O.length (by omega)
       change Pure _ _ _ (.sl 1 (ZH (ords O)) none) at c66
       have hpl : ∀ p ∈ ords O, p.length ≤ 1000 := fun p hp => by have := (Qa7.1 hp).length_eq; omega
       change (ords O).length = _ at hfl
       cases hE : ords O with
       | nil => exact absurd (Qa7.2 (List.Perm.refl O)) (by rw [hE]; simp)
       | cons e EE =>
        rw [hE] at c66 eO hfl hpl
        have cR : ∀ p ∈ e :: EE, Pure Tryz.prog 67 [.i N, .sl 1 (ints p) none, .sl 4 (avs V) none, .sl 2 (vs G.atom S) none] (An.mk false (ansM N ⟨V, S⟩ p).vals (ansM N ⟨V, S⟩ p).store).av := fun p hp =>
         Qc8 N p ⟨V, S⟩ (by omega) (hpl p hp) (by simp only; omega) (by simp only; omega) (by simp only; omega)
        have hsz : ∀ p, ndsL (ansM N ⟨V, S⟩ p).vals ≤ 1000000 ∧ gsN (ansM N ⟨V, S⟩ p).store ≤ 1000000 := fun p =>
         ⟨Nat.le_trans (Zn _ _) (by show ndsL V ≤ _; omega), by show gsN (Yq cmpG _) ≤ _; rw [QeE (Y0 cmpG _)]; exact Nat.le_trans (QeF _ _) (by show gsN S ≤ _; omega)⟩
        have c0 := cR e (by simp)
        have g0 : (ZH (e :: EE))[0]? = some (.sl 1 (ints e) none) := rfl
        have r0 : (0 : Int) < (((e :: EE).length : Nat) : Int) := by simp only [Qpl]; omega
        have r1 : 0 < (e :: EE).length := by simp
        simp only [Qpl] at hfl r0 r1
        repeat (first | ((first | (with_reducible (first | refine Qa fun K E hK hE => ?_ | refine Qp co ?_ | refine Qp c66 ?_ | refine Qp c0 ?_))); simp -implicitDefEqProofs only [Qe, Qf, OpW, QJ, aop, undef, AS.ev, AV.Qot, ↓reduceIte, QB, QC, QO, QF, Qt, aBin, aLen, goInt, un30, ti32, zi32, ti49, un49, Qi6, QpV, t0, t11, t12, t13, hlt, QP, h6', Ye, g0, r0, An.cells, An.isAgg, seval]) | (with_reducible (first | refine Qc fun K hK => ?_ | refine Qi ?_ | refine Qm ?_ | refine QA ?_ | refine Qb ?_ | refine Qu ?_ | refine Qv ?_)) | ((with_reducible refine hK _ ?_); clear hK) | (clear hK; (with_reducible refine hK _ ?_); clear hK) | (refine Qg rfl ?_; simp only [↓reduceIte, Qpc]))
        obtain ⟨I, hI⟩ : ∃ I : Nat → AS → Prop, I = fun m' s => ∃ (k : Nat) (M2 : AH), m' = EE.length - k ∧ k ≤ EE.length ∧ s.tm 0 = .i N ∧ s.tm 11 = .sl 4 (avs V) none ∧ s.tm 12 = .sl 2 (vs G.atom S) none ∧ s.tm 8 = .ptr h.length 0 0 ∧ s.tm 15 = .sl 1 (ZH (e :: EE)) none ∧ s.tm 16 = .ptr (h.length + (M.length + 1)) 0 0 ∧ s.tm 17 = .i ((k + 1 : Nat) : Int) ∧
          s.h = h ++ ([.cells 32 3 [.agg [.v (.bool false), .v (.slice none 0 0), .v (.slice none 0 0)]]] ++ M ++ [.cells 32 3 [(An.mk false (Yb cmpA (ansM N ⟨V, S⟩ e) ((EE.take k).map (ansM N ⟨V, S⟩))).vals (Yb cmpA (ansM N ⟨V, S⟩ e) ((EE.take k).map (ansM N ⟨V, S⟩))).store).av]] ++ M2) := ⟨_, rfl⟩; refine QI I ?_ (m := EE.length) ?_
        ·intro m' s hs; rw [hI] at hs; obtain ⟨tm, hp⟩ := s; dsimp only at hs; obtain ⟨k, M2, rfl, hk, t0, t11, t12, t8, t15, t16, t17, rfl⟩ := hs
         generalize hB : Yb cmpA (ansM N ⟨V, S⟩ e) ((EE.take k).map (ansM N ⟨V, S⟩)) = B
         by_cases hlt : k < EE.length
         ·have hE1 : (ZH (e :: EE))[k + 1]? = some (.sl 1 (ints EE[k]) none) := by rw [Qgd (by simpa using hlt)]; rfl
          have cR1 := cR EE[k] (by simp)
          have hst : Yb cmpA (ansM N ⟨V, S⟩ e) ((EE.take (k + 1)).map (ansM N ⟨V, S⟩)) = if cmpA (ansM N ⟨V, S⟩ EE[k]) B < 0 then ansM N ⟨V, S⟩ EE[k] else B := by
           rw [List.take_succ_eq_append_getElem hlt, List.map_append, List.map_cons, List.map_nil, QgX, hB]
          have hsA := hsz EE[k]
          generalize ansM N ⟨V, S⟩ EE[k] = A1 at cR1 hst hsA
          have ccp := Ze ⟨false, A1.vals, A1.store⟩ ⟨false, B.vals, B.store⟩ hsA.1 hsA.2
          have ecp : Z6 ⟨false, A1.vals, A1.store⟩ ⟨false, B.vals, B.store⟩ = cmpA A1 B := rfl
          rw [ecp] at ccp
          have hlI : (((k + 1 : Nat) : Int)) < (((EE.length + 1 : Nat)) : Int) := by omega
          have hlN : k + 1 < EE.length + 1 := by omega
          by_cases hc : cmpA A1 B < 0
          ·rw [if_pos hc] at hst
           repeat (first | ((first | (with_reducible (first | refine Qa fun K E hK hE => ?_ | refine Qk fun K E hK hE => ?_ | refine Qp cR1 ?_ | refine Qp ccp ?_))); simp -implicitDefEqProofs only [Qe, Qf, OpW, QJ, aop, undef, AS.ev, AV.Qot, ↓reduceIte, QB, QC, QO, QF, Qt, aBin, aLen, goInt, ti32, zi32, ti49, Qi6, Qjn, t0, t11, t12, t15, t16, t17, Ye, hE1, hlI, An.cells, An.isAgg, hc, seval]) | (with_reducible (first | refine Qc fun K hK => ?_ | refine Qi ?_ | refine Qm ?_ | refine Qb ?_ | refine Qn ?_)) | ((with_reducible refine hK _ ?_); clear hK) | (refine Qg rfl ?_; simp only [↓reduceIte]))
           refine QW.mk (m' := EE.length - (k + 1)) (by omega) ?_
           rw [hI]
           refine ⟨k + 1, M2 ++ [.cells 32 3 [(An.mk false A1.vals A1.store).av]], rfl, hlt, t0, t11, t12, t8, t15, t16, ?_, ?_⟩
           ·simp only [upd, ↓reduceIte]
            rw [QN (by omega)]
           ·rw [hst]; simp
          ·rw [if_neg hc] at hst
           repeat (first | ((first | (with_reducible (first | refine Qa fun K E hK hE => ?_ | refine Qk fun K E hK hE => ?_ | refine Qp cR1 ?_ | refine Qp ccp ?_))); simp -implicitDefEqProofs only [Qe, Qf, OpW, QJ, aop, undef, AS.ev, AV.Qot, ↓reduceIte, QB, QC, QO, QF, Qt, aBin, aLen, goInt, ti32, zi32, ti49, Qi6, Qjn, t0, t11, t12, t15, t16, t17, Ye, hE1, hlI, An.cells, An.isAgg, hc, seval]) | (with_reducible (first | refine Qc fun K hK => ?_ | refine Qi ?_ | refine Qm ?_ | refine Qb ?_ | refine Qn ?_)) | ((with_reducible refine hK _ ?_); clear hK) | (refine Qg rfl ?_; simp only [↓reduceIte, Qpc]))
           refine QW.mk (m' := EE.length - (k + 1)) (by omega) ?_
           rw [hI]
           refine ⟨k + 1, M2 ++ [.cells 32 3 [(An.mk false A1.vals A1.store).av]], rfl, hlt, t0, t11, t12, t8, t15, t16, ?_, ?_⟩
           ·simp only [upd, ↓reduceIte]
            rw [QN (by omega)]
           ·rw [hst]; simp
         ·have hkl : k = EE.length := by omega
          have hlI : ¬ (((k + 1 : Nat) : Int)) < (((EE.length + 1 : Nat)) : Int) := by omega
          rw [hkl, List.take_length] at hB
          repeat (first | (((with_reducible refine Qa fun K E hK hE => ?_)); simp -implicitDefEqProofs only [Qe, Qf, OpW, aop, undef, AS.ev, AV.Qot, ↓reduceIte, QB, QC, QO, QF, aBin, aLen, goInt, ti32, Qjn, t8, t15, t16, t17, Ye, hlI, An.cells, An.isAgg, seval]) | (with_reducible (first | refine Qc fun K hK => ?_ | refine Qj ?_ | refine QA ?_ | refine Qb ?_ | refine Qu ?_ | refine Qv ?_)) | ((with_reducible refine hK _ ?_); clear hK) | (clear hK; (with_reducible refine hK _ ?_); clear hK) | (refine Qg rfl ?_; simp only [↓reduceIte, Qpc]))
          simp -implicitDefEqProofs only [Qe, ↓reduceIte, QB, QC, ti32, t8, An.cells, An.isAgg, List.mapM_cons, List.mapM_nil, Option.pure_def, Option.bind_eq_bind, QD, Ql, Qr, Qpi, seval]
          rw [eO, Qdm, hB]
          exact Qd (htake _ _) (.tup rfl (QZ (.keep (An.below _ _)) (Xz (.keep (.v _))))) ⟨rfl, rfl⟩
        ·rw [hI]
         exact ⟨0, [], by omega, Nat.zero_le _, t0, t11, t12, t8, rfl, rfl, rfl, by simp [Yb]⟩
    ·rw [hI]
     exact ⟨0, M, by omega, Nat.zero_le _, by simp, t0, rfl, rfl, t8, rfl, rfl⟩
 ·rw [hI]
  exact ⟨0, [], by omega, Nat.zero_le _, by simp, rfl, rfl, rfl, rfl, rfl, rfl, rfl⟩
end Go.Proofs.YtniljpjjnmkoaaaGreatDoor.Ab
set_option maxRecDepth 4000
namespace Go.Proofs.YtniljpjjnmkoaaaGreatDoor.Ab
open Go.Proofs
structure Cs where
 vars : Int
 b : List (Int × T)
 l : List It
 failed : Bool
def Cs.av (c : Cs) : AV := .agg [.i c.vars, .sl 5 (bavs c.b) none, .sl 3 (vs It.av c.l) none, .v (.bool c.failed)]
theorem Cs.cells (c : Cs) : c.av.cells = [.i c.vars, .sl 5 (bavs c.b) none, .sl 3 (vs It.av c.l) none, .v (.bool c.failed)] := rfl
theorem Cs.isAgg (c : Cs) : c.av.isAgg = true := rfl
structure Cs.ok (c : Cs) : Prop where
 v : i64 c.vars
 b : ∀ x ∈ c.b, i64 x.1 ∧ x.2.ok
 l : ∀ x ∈ c.l, x.atom.op = 0 ∧ x.atom.ok
def bigB (x : Int × T) : Bool := decide (weigh 64 [x.2] 40 < 0)
def bigI (x : It) : Bool := decide (Y6 [x.atom] 40 < 0)
def Cs.big (c : Cs) : Bool := decide (c.vars > 101) || (decide ((c.b.length : Int) > 20) || (decide ((c.l.length : Int) > 7) || (c.b.any bigB || c.l.any bigI)))
theorem Cs.small {c : Cs} (ho : c.ok) (h : c.big = false) : c.vars ≤ 101 ∧ SmallC c.b c.l := by
 simp only [Cs.big, Bool.or_eq_false_iff, decide_eq_false_iff_not, List.any_eq_false] at h
 obtain ⟨h1, h2, h3, h4, h5⟩ := h
 refine ⟨by omega, by omega, fun x hx => ?_, ho.b, by omega, fun x hx => ?_, fun x hx => (ho.l x hx).2.2.2⟩
 ·have := h4 x hx
  rw [bigB, decide_eq_true_eq] at this
  have := Qj5 this
  simp only [ndsL] at this; omega
 ·have := h5 x hx
  rw [bigI, decide_eq_true_eq] at this
  have := Qfu [x.atom] 40 (by omega)
  simp only [ndsG] at this; omega
theorem Qij (c : Cs) (ho : c.ok) : Pure Tryz.prog 9 [c.av] (.b c.big) := by
 intro h
 by_cases k1 : c.vars > 101
 ·have e : c.big = true := by rw [Cs.big, decide_eq_true k1]; rfl
  refine Qh Tryz.func9 rfl Tryz.call9 Tryz.ntmps9 (congrArg Array.toList Tryz.results9) (by simp) ?_
  repeat (first | (((with_reducible refine Qa fun K E hK hE => ?_)); simp -implicitDefEqProofs only [Qe, Qf, OpW, aop, undef, AS.ev, Qy, AV.Qot, ↓reduceIte, Qo, QB, QC, aBin, ti3, QdO, Cs.cells, k1, seval]) | (with_reducible (first | refine Qc fun K hK => ?_ | refine Qj ?_ | refine Qq ?_)) | ((with_reducible refine hK _ ?_); clear hK) | (refine Qg rfl ?_; simp only [↓reduceIte]))
  simp only [QD, Ql, Qr, upd, ↓reduceIte, Qpe, Qpi]; first | refine Qd (htake _ _) (.keep (.v _)) ⟨by rw [e], rfl⟩ | refine Qd List.take_length (.keep (.v _)) ⟨by rw [e], rfl⟩
 by_cases k2 : (c.b.length : Int) > 20
 ·have e : c.big = true := by rw [Cs.big, decide_eq_true k2, Bool.true_or, Bool.or_true]
  refine Qh Tryz.func9 rfl Tryz.call9 Tryz.ntmps9 (congrArg Array.toList Tryz.results9) (by simp) ?_
  repeat (first | (((with_reducible refine Qa fun K E hK hE => ?_)); simp -implicitDefEqProofs only [Qe, Qf, OpW, aop, undef, AS.ev, Qy, AV.Qot, ↓reduceIte, Qo, QB, QC, aBin, aLen, goInt, ti3, ti23, un23, QdO, Qb9, Cs.cells, QL, k1, k2, seval]) | (with_reducible (first | refine Qc fun K hK => ?_ | refine Qj ?_ | refine Qq ?_)) | ((with_reducible refine hK _ ?_); clear hK) | (refine Qg rfl ?_; simp only [↓reduceIte]))
  simp only [QD, Ql, Qr, upd, ↓reduceIte, Qpe, Qpi]; first | refine Qd (htake _ _) (.keep (.v _)) ⟨by rw [e], rfl⟩ | refine Qd List.take_length (.keep (.v _)) ⟨by rw [e], rfl⟩
 by_cases k3 : (c.l.length : Int) > 7
 ·have e : c.big = true := by rw [Cs.big, decide_eq_true k3, Bool.true_or, Bool.or_true, Bool.or_true]
  refine Qh Tryz.func9 rfl Tryz.call9 Tryz.ntmps9 (congrArg Array.toList Tryz.results9) (by simp) ?_
  repeat (first | (((with_reducible refine Qa fun K E hK hE => ?_)); simp -implicitDefEqProofs only [Qe, Qf, OpW, aop, undef, AS.ev, Qy, AV.Qot, ↓reduceIte, Qo, QB, QC, aBin, aLen, goInt, ti3, ti23, un23, ti24, un24, QdO, Qb9, Qdu, Cs.cells, QP, QL, k1, k2, k3, seval]) | (with_reducible (first | refine Qc fun K hK => ?_ | refine Qj ?_ | refine Qq ?_)) | ((with_reducible refine hK _ ?_); clear hK) | (refine Qg rfl ?_; simp only [↓reduceIte]))
  simp only [QD, Ql, Qr, upd, ↓reduceIte, Qpe, Qpi]; first | refine Qd (htake _ _) (.keep (.v _)) ⟨by rw [e], rfl⟩ | refine Qd List.take_length (.keep (.v _)) ⟨by rw [e], rfl⟩
 have e : c.big = (c.b.any bigB || c.l.any bigI) := by rw [Cs.big, decide_eq_false k1, decide_eq_false k2, decide_eq_false k3]; rfl
 rw [e]
 refine Qh Tryz.func9 rfl Tryz.call9 Tryz.ntmps9 (congrArg Array.toList Tryz.results9) (by simp) ?_
 repeat (first | (((with_reducible refine Qa fun K E hK hE => ?_)); simp -implicitDefEqProofs only [Qe, Qf, OpW, aop, undef, AS.ev, Qy, AV.Qot, ↓reduceIte, Qo, QB, QC, aBin, aLen, goInt, ti3, ti23, un23, ti24, un24, QdO, Qb9, Qdu, Cs.cells, QP, QL, k1, k2, k3, seval]) | (with_reducible (first | refine Qc fun K hK => ?_ | refine Qi ?_ | refine Qm ?_ | refine Qb ?_)) | ((with_reducible refine hK _ ?_); clear hK) | (refine Qg rfl ?_; simp only [↓reduceIte, Qpc]))
 obtain ⟨I, hI⟩ : ∃ I : Nat → AS → Prop, I = fun m' s => ∃ (k : Nat) (M : AH), m' = c.b.length - k ∧ k ≤ c.b.length ∧ (∀ x ∈ c.b.take k, bigB x = false) ∧ s.tm 1 = .ptr h.length 0 0 ∧ s.tm 3 = .i k ∧ s.h = h ++ ([.cells 26 4 [c.av]] ++ M) := ⟨_, rfl⟩; refine QI I ?_ (m := c.b.length) ?_
 ·intro m' s hs; rw [hI] at hs; obtain ⟨tm, hp⟩ := s; dsimp only at hs; obtain ⟨k, M, rfl, hk, hall, t1, t3, rfl⟩ := hs
  by_cases hlt : k < c.b.length
  ·have hx := List.getElem_mem hlt
   have cg := Qia [(c.b[k]).2] 40 (by simp only [oks]; exact ⟨(ho.b _ hx).2, trivial⟩) (by omega) (by omega)
   have eb : decide (weigh 64 [(c.b[k]).2] 40 < 0) = bigB c.b[k] := rfl
   rw [eb] at cg
   have ea : avs [(c.b[k]).2] = [.agg [.i (c.b[k]).2.kind, .i (c.b[k]).2.int, .v (.string (c.b[k]).2.name), .sl 4 (avs (c.b[k]).2.args) none]] := by rw [Zp, T.QoD]
   rw [ea] at cg
   cases hr : bigB c.b[k] with
   | true =>
    rw [hr] at cg
    have e2 : c.b.any bigB = true := List.any_eq_true.2 ⟨_, hx, hr⟩
    repeat (first | ((first | (with_reducible (first | refine Qa fun K E hK hE => ?_ | refine Qp cg ?_))); simp -implicitDefEqProofs only [Qe, Qf, OpW, QJ, aop, AS.ev, AV.Qot, ↓reduceIte, Qo, QB, QC, Qt, aBin, QM, aLen, goInt, ti23, ei23, un23, Qb9, ei29, ti41, zi41, Zf, t1, t3, Cs.cells, hlt, QL, Q3 hlt, QQ, Xj, seval]) | (with_reducible (first | refine Qc fun K hK => ?_ | refine Qi ?_ | refine Qj ?_ | refine Qm ?_ | refine Qb ?_ | refine Qq ?_ | refine Qs ?_)) | ((with_reducible refine hK _ ?_); clear hK) | (refine Qg rfl ?_; simp only [↓reduceIte]))
    simp only [QD, Ql, Qr, upd, ↓reduceIte, Qpe, Qpi]; first | refine Qd (htake _ _) (.keep (.v _)) ⟨by rw [e2]; rfl, rfl⟩ | refine Qd List.take_length (.keep (.v _)) ⟨by rw [e2]; rfl, rfl⟩
   | false =>
    rw [hr] at cg
    repeat (first | ((first | (with_reducible (first | refine Qa fun K E hK hE => ?_ | refine Qk fun K E hK hE => ?_ | refine Qp cg ?_))); simp -implicitDefEqProofs only [Qe, Qf, OpW, QJ, aop, AS.ev, AV.Qot, ↓reduceIte, Qo, QB, QC, Qt, aBin, QM, aLen, goInt, ti23, ei23, un23, Qb9, ei29, ti41, zi41, Zf, t1, t3, Cs.cells, hlt, QL, Q3 hlt, QQ, Xj, seval]) | (with_reducible (first | refine Qc fun K hK => ?_ | refine Qi ?_ | refine Qm ?_ | refine Qb ?_ | refine Qn ?_)) | ((with_reducible refine hK _ ?_); clear hK) | (refine Qg rfl ?_; simp only [↓reduceIte, Qpc]))
    refine QW.mk (m' := c.b.length - (k + 1)) (by omega) ?_
    rw [hI]
    refine ⟨k + 1, M, rfl, hlt, ?_, t1, ?_, rfl⟩
    ·intro x hx
     rw [List.take_succ_eq_append_getElem hlt] at hx
     rcases List.mem_append.1 hx with hx | hx
     ·exact hall x hx
     ·rw [List.mem_singleton] at hx; subst hx; exact hr
    ·simp only [upd, ↓reduceIte]
     rw [QN (by omega)]
  ·have hkl : k = c.b.length := by omega
   subst hkl
   rw [List.take_length] at hall
   have eb0 : c.b.any bigB = false := by rw [List.any_eq_false]; intro x hx; rw [hall x hx]; decide
   repeat (first | (((with_reducible refine Qa fun K E hK hE => ?_)); simp -implicitDefEqProofs only [Qe, Qf, OpW, aop, AS.ev, ↓reduceIte, Qo, QB, QC, aBin, aLen, goInt, ti23, un23, Qb9, t1, t3, Cs.cells, hlt, QL, seval]) | (with_reducible (first | refine Qc fun K hK => ?_ | refine Qi ?_ | refine QA ?_ | refine Qb ?_ | refine Qu ?_ | refine Qv ?_)) | ((with_reducible refine hK _ ?_); clear hK) | (clear hK; (with_reducible refine hK _ ?_); clear hK) | (refine Qg rfl ?_; simp only [↓reduceIte, Qpc]))
   obtain ⟨I, hI⟩ : ∃ I : Nat → AS → Prop, I = fun m' s => ∃ (k : Nat) (M : AH), m' = c.l.length - k ∧ k ≤ c.l.length ∧ (∀ x ∈ c.l.take k, bigI x = false) ∧ s.tm 1 = .ptr h.length 0 0 ∧ s.tm 4 = .i k ∧ s.h = h ++ ([.cells 26 4 [c.av]] ++ M) := ⟨_, rfl⟩; refine QI I ?_ (m := c.l.length) ?_
   ·intro m' s hs; rw [hI] at hs; obtain ⟨tm, hp⟩ := s; dsimp only at hs; obtain ⟨k, M, rfl, hk, hall, t1, t4, rfl⟩ := hs
    by_cases hlt : k < c.l.length
    ·have hx := List.getElem_mem hlt
     have cg : Pure Tryz.prog 29 [.sl 2 [.agg [.v (.string (c.l[k]).atom.name), .sl 4 (avs (c.l[k]).atom.args) none]] none, .i 40] (.b (decide (Y6 [(c.l[k]).atom] 40 < 0))) :=
      Qdl [(c.l[k]).atom] 40 (fun g hg => by rw [List.mem_singleton] at hg; subst hg; exact (ho.l _ hx).2) (by simp) (by omega) (by omega)
     have eb : decide (Y6 [(c.l[k]).atom] 40 < 0) = bigI c.l[k] := rfl
     rw [eb] at cg
     cases hr : bigI c.l[k] with
     | true =>
      rw [hr] at cg
      have e2 : c.l.any bigI = true := List.any_eq_true.2 ⟨_, hx, hr⟩
      repeat (first | ((first | (with_reducible (first | refine Qa fun K E hK hE => ?_ | refine Qp cg ?_))); simp -implicitDefEqProofs only [Qe, Qf, OpW, QJ, aop, AS.ev, AV.Qot, ↓reduceIte, Qo, QB, QC, Qt, aBin, QM, aLen, goInt, ti24, ei24, un24, Qdu, ei30, ti45, zi45, Qbe, t1, t4, Cs.cells, hlt, QP, Xw It.av hlt, It.cells, It.isAgg, seval]) | (with_reducible (first | refine Qc fun K hK => ?_ | refine Qi ?_ | refine Qj ?_ | refine Qm ?_ | refine Qb ?_ | refine Qq ?_ | refine Qs ?_)) | ((with_reducible refine hK _ ?_); clear hK) | (refine Qg rfl ?_; simp only [↓reduceIte]))
      simp only [QD, Ql, Qr, upd, ↓reduceIte, Qpe, Qpi]; first | refine Qd (htake _ _) (.keep (.v _)) ⟨by rw [eb0, e2]; rfl, rfl⟩ | refine Qd List.take_length (.keep (.v _)) ⟨by rw [eb0, e2]; rfl, rfl⟩
     | false =>
      rw [hr] at cg
      repeat (first | ((first | (with_reducible (first | refine Qa fun K E hK hE => ?_ | refine Qk fun K E hK hE => ?_ | refine Qp cg ?_))); simp -implicitDefEqProofs only [Qe, Qf, OpW, QJ, aop, AS.ev, AV.Qot, ↓reduceIte, Qo, QB, QC, Qt, aBin, QM, aLen, goInt, ti24, ei24, un24, Qdu, ei30, ti45, zi45, Qbe, t1, t4, Cs.cells, hlt, QP, Xw It.av hlt, It.cells, It.isAgg, seval]) | (with_reducible (first | refine Qc fun K hK => ?_ | refine Qi ?_ | refine Qm ?_ | refine Qb ?_ | refine Qn ?_)) | ((with_reducible refine hK _ ?_); clear hK) | (refine Qg rfl ?_; simp only [↓reduceIte, Qpc]))
      refine QW.mk (m' := c.l.length - (k + 1)) (by omega) ?_
      rw [hI]
      refine ⟨k + 1, M, rfl, hlt, ?_, t1, ?_, rfl⟩
      ·intro x hx
       rw [List.take_succ_eq_append_getElem hlt] at hx
       rcases List.mem_append.1 hx with hx | hx
       ·exact hall x hx
       ·rw [List.mem_singleton] at hx; subst hx; exact hr
      ·simp only [upd, ↓reduceIte]
       rw [QN (by omega)]
    ·have hkl : k = c.l.length := by omega
     subst hkl
     rw [List.take_length] at hall
     have e2 : c.l.any bigI = false := by rw [List.any_eq_false]; intro x hx; rw [hall x hx]; decide
     repeat (first | (((with_reducible refine Qa fun K E hK hE => ?_)); simp -implicitDefEqProofs only [Qe, Qf, OpW, aop, AS.ev, ↓reduceIte, Qo, QB, QC, aBin, aLen, goInt, ti24, un24, Qdu, t1, t4, Cs.cells, hlt, QP, seval]) | (with_reducible (first | refine Qc fun K hK => ?_ | refine Qj ?_ | refine QA ?_ | refine Qb ?_ | refine Qu ?_ | refine Qv ?_)) | ((with_reducible refine hK _ ?_); clear hK) | (clear hK; (with_reducible refine hK _ ?_); clear hK) | (refine Qg rfl ?_; simp only [↓reduceIte, Qpc]))
     simp only [QD, Ql, Qr, upd, ↓reduceIte, Qpe, Qpi]; first | refine Qd (htake _ _) (.keep (.v _)) ⟨by rw [eb0, e2]; rfl, rfl⟩ | refine Qd List.take_length (.keep (.v _)) ⟨by rw [eb0, e2]; rfl, rfl⟩
   ·rw [hI]
    exact ⟨0, M, by omega, Nat.zero_le _, by simp, t1, rfl, rfl⟩
 ·rw [hI]
  exact ⟨0, [], by omega, Nat.zero_le _, by simp, rfl, rfl, rfl⟩
theorem QfR (a b : An) (hv : ndsL a.vals ≤ 1000000) (hs : gsN a.store ≤ 1000000) : Pure Tryz.prog 13 [a.av, b.av] (.b (Z6 a b == 0)) := by
 intro h
 have c := Ze a b hv hs
 refine Qh Tryz.func13 rfl Tryz.call13 Tryz.ntmps13 (congrArg Array.toList Tryz.results13) (by simp) ?_
 repeat (first | ((first | (with_reducible (first | refine Qa fun K E hK hE => ?_ | refine Qp c ?_))); simp -implicitDefEqProofs only [Qe, Qf, OpW, QJ, aop, undef, AS.ev, Qy, AV.Qot, ↓reduceIte, QB, QC, aBin, ti32, An.cells, An.isAgg, seval]) | (with_reducible refine Qj ?_) | ((with_reducible refine hK _ ?_); clear hK))
 simp only [QD, Ql, Qr, upd, ↓reduceIte, Qpe, Qpi]; first | refine Qd (htake _ _) (.keep (.v _)) ⟨rfl, rfl⟩ | refine Qd List.take_length (.keep (.v _)) ⟨rfl, rfl⟩
end Go.Proofs.YtniljpjjnmkoaaaGreatDoor.Ab
namespace Go.Proofs.YtniljpjjnmkoaaaGreatDoor.Ab
open Go.Proofs
def bokB (x : Int × T) : Prop := i64 x.1 ∧ x.2.ok
def iokB (x : It) : Prop := x.atom.op = 0 ∧ x.atom.ok
theorem QjH {H : Type} (enc : TypeId × Value → H) (W : World) (fuel : Nat) (cs : List Value) (y : DataW H × List MemPlace) (h : DataW.trod enc Tryz.prog W 0 (fun _ => true) true fuel 52 cs = some y) : ∃ p : (Int × T), bokB p ∧ Reads W (bav p) cs := by
 obtain ⟨xs, fu, hfu, _, hl, hlen, hf⟩ := DataW.trod_struct Tryz.underlying52 h
 have hC : Tryz.prog.cellsOf 52 = 5 := by kernel_rfl
 rw [hC] at hl
 have hlenN : xs.length = 2 := hlen
 obtain ⟨y0, l1, rfl, k1⟩ := Xc hlenN
 obtain ⟨y1, l2, rfl, k2⟩ := Xc k1
 obtain rfl := len_nil k2
 obtain ⟨c0, l1, rfl, k1⟩ := Xc hl
 obtain ⟨c1, l2, rfl, k2⟩ := Xc k1
 obtain ⟨c2, l3, rfl, k3⟩ := Xc k2
 obtain ⟨c3, l4, rfl, k4⟩ := Xc k3
 obtain ⟨c4, l5, rfl, k5⟩ := Xc k4
 obtain rfl := len_nil k5
 have g0 : DataW.trod enc Tryz.prog W 0 (fun _ => true) true fu 3 (([c0, c1, c2, c3, c4].drop 0).take (Tryz.prog.cellsOf 3)) = some y0 := hf 0 _ rfl
 rw [show Tryz.prog.cellsOf 3 = 1 by kernel_rfl] at g0
 have g1 : DataW.trod enc Tryz.prog W 0 (fun _ => true) true fu 41 (([c0, c1, c2, c3, c4].drop 1).take (Tryz.prog.cellsOf 41)) = some y1 := hf 1 _ rfl
 rw [show Tryz.prog.cellsOf 41 = 4 by kernel_rfl] at g1
 clear hf
 simp only [Qpp, Qph, Qpj, Qpq] at g0 g1
 obtain ⟨f0, e0, _, w0⟩ := DataW.trod_int Tryz.underlying3 g0
 obtain ⟨f1, q1, hr1⟩ := Qfo enc W _ _ _ g1
 cases e0
 refine ⟨(f0, f1), ⟨QhI w0, q1⟩, rfl, fun j x v hx hv => ?_⟩
 rw [QQ] at hx
 match j, hx, hv with
 | 0, hx, hv => simp at hx hv; subst hx; subst hv; exact ⟨.v _, rfl⟩
 | 1, hx, hv => simp at hx hv; subst hx; subst hv; exact hr1.2 0 _ _ (by rw [T.Qoy]; rfl) rfl
 | 2, hx, hv => simp at hx hv; subst hx; subst hv; exact hr1.2 1 _ _ (by rw [T.Qoy]; rfl) rfl
 | 3, hx, hv => simp at hx hv; subst hx; subst hv; exact hr1.2 2 _ _ (by rw [T.Qoy]; rfl) rfl
 | 4, hx, hv => simp at hx hv; subst hx; subst hv; exact hr1.2 3 _ _ (by rw [T.Qoy]; rfl) rfl
 | j + 5, hx, hv => simp at hx
theorem QjW {H : Type} (enc : TypeId × Value → H) (W : World) (fuel : Nat) (cs : List Value) (y : DataW H × List MemPlace) (h : DataW.trod enc Tryz.prog W 0 (fun _ => true) true fuel 48 cs = some y) : ∃ p : It, iokB p ∧ Reads W (It.av p) cs := by
 obtain ⟨xs, fu, hfu, _, hl, hlen, hf⟩ := DataW.trod_struct Tryz.underlying48 h
 have hC : Tryz.prog.cellsOf 48 = 3 := by kernel_rfl
 rw [hC] at hl
 have hlenN : xs.length = 2 := hlen
 obtain ⟨y0, l1, rfl, k1⟩ := Xc hlenN
 obtain ⟨y1, l2, rfl, k2⟩ := Xc k1
 obtain rfl := len_nil k2
 obtain ⟨c0, l1, rfl, k1⟩ := Xc hl
 obtain ⟨c1, l2, rfl, k2⟩ := Xc k1
 obtain ⟨c2, l3, rfl, k3⟩ := Xc k2
 obtain rfl := len_nil k3
 have g0 : DataW.trod enc Tryz.prog W 0 (fun _ => true) true fu 3 (([c0, c1, c2].drop 0).take (Tryz.prog.cellsOf 3)) = some y0 := hf 0 _ rfl
 rw [show Tryz.prog.cellsOf 3 = 1 by kernel_rfl] at g0
 have g1 : DataW.trod enc Tryz.prog W 0 (fun _ => true) true fu 45 (([c0, c1, c2].drop 1).take (Tryz.prog.cellsOf 45)) = some y1 := hf 1 _ rfl
 rw [show Tryz.prog.cellsOf 45 = 2 by kernel_rfl] at g1
 clear hf
 simp only [Qpp, Qph, Qpj, Qpq] at g0 g1
 obtain ⟨f0, e0, _, w0⟩ := DataW.trod_int Tryz.underlying3 g0
 obtain ⟨f1, q1, hr1⟩ := Qja enc W _ _ _ g1
 cases e0
 refine ⟨⟨f0, f1⟩, q1, rfl, fun j x v hx hv => ?_⟩
 rw [It.cells] at hx
 match j, hx, hv with
 | 0, hx, hv => simp at hx hv; subst hx; subst hv; exact ⟨.v _, rfl⟩
 | 1, hx, hv => simp at hx hv; subst hx; subst hv; exact hr1.2 0 _ _ rfl rfl
 | 2, hx, hv => simp at hx hv; subst hx; subst hv; exact hr1.2 1 _ _ rfl rfl
 | j + 3, hx, hv => simp at hx
theorem Qi1 {H : Type} (enc : TypeId × Value → H) (W : World) (fuel : Nat) (cs : List Value) (y : DataW H × List MemPlace) (h : DataW.trod enc Tryz.prog W 0 (fun _ => true) true fuel 26 cs = some y) : ∃ p : Cs, Cs.ok p ∧ Reads W (Cs.av p) cs := by
 obtain ⟨xs, fu, hfu, _, hl, hlen, hf⟩ := DataW.trod_struct Tryz.underlying26 h
 have hC : Tryz.prog.cellsOf 26 = 4 := by kernel_rfl
 rw [hC] at hl
 have hlenN : xs.length = 4 := hlen
 obtain ⟨y0, l1, rfl, k1⟩ := Xc hlenN
 obtain ⟨y1, l2, rfl, k2⟩ := Xc k1
 obtain ⟨y2, l3, rfl, k3⟩ := Xc k2
 obtain ⟨y3, l4, rfl, k4⟩ := Xc k3
 obtain rfl := len_nil k4
 obtain ⟨c0, l1, rfl, k1⟩ := Xc hl
 obtain ⟨c1, l2, rfl, k2⟩ := Xc k1
 obtain ⟨c2, l3, rfl, k3⟩ := Xc k2
 obtain ⟨c3, l4, rfl, k4⟩ := Xc k3
 obtain rfl := len_nil k4
 have g0 : DataW.trod enc Tryz.prog W 0 (fun _ => true) true fu 3 (([c0, c1, c2, c3].drop 0).take (Tryz.prog.cellsOf 3)) = some y0 := hf 0 _ rfl
 rw [show Tryz.prog.cellsOf 3 = 1 by kernel_rfl] at g0
 have g1 : DataW.trod enc Tryz.prog W 0 (fun _ => true) true fu 23 (([c0, c1, c2, c3].drop 1).take (Tryz.prog.cellsOf 23)) = some y1 := hf 1 _ rfl
 rw [show Tryz.prog.cellsOf 23 = 1 by kernel_rfl] at g1
 have g2 : DataW.trod enc Tryz.prog W 0 (fun _ => true) true fu 24 (([c0, c1, c2, c3].drop 2).take (Tryz.prog.cellsOf 24)) = some y2 := hf 2 _ rfl
 rw [show Tryz.prog.cellsOf 24 = 1 by kernel_rfl] at g2
 have g3 : DataW.trod enc Tryz.prog W 0 (fun _ => true) true fu 4 (([c0, c1, c2, c3].drop 3).take (Tryz.prog.cellsOf 4)) = some y3 := hf 3 _ rfl
 rw [show Tryz.prog.cellsOf 4 = 1 by kernel_rfl] at g3
 clear hf
 simp only [Qpp, Qph, Qpj, Qpq] at g0 g1 g2 g3
 obtain ⟨f0, e0, _, w0⟩ := DataW.trod_int Tryz.underlying3 g0
 obtain ⟨f1, u1, q1, e1, hu1, hr1⟩ := QaA (X := (Int × T)) (val := bav) (Good := bokB) (s := 5) Tryz.underlying23 (by kernel_rfl) (by omega) (fun t => by rw [QQ]; rfl) (fun m cs y _ hy => QjH enc W m cs y hy) g1
 have n1 := Qav hr1
 obtain ⟨f2, u2, q2, e2, hu2, hr2⟩ := QaA (X := It) (val := It.av) (Good := iokB) (s := 3) Tryz.underlying24 (by kernel_rfl) (by omega) (fun t => by rw [It.cells]; rfl) (fun m cs y _ hy => QjW enc W m cs y hy) g2
 have n2 := Qav hr2
 obtain ⟨f3, e3, _⟩ := DataW.trod_bool Tryz.underlying4 g3
 cases e0
 cases e1
 cases e2
 cases e3
 refine ⟨⟨f0, f1, f2, f3⟩, ⟨QhI w0, q1, q2⟩, rfl, fun j x v hx hv => ?_⟩
 rw [Cs.cells] at hx
 match j, hx, hv with
 | 0, hx, hv => simp at hx hv; subst hx; subst hv; exact ⟨.v _, rfl⟩
 | 1, hx, hv => simp at hx hv; subst hx; subst hv; exact ⟨hr1, hu1⟩
 | 2, hx, hv => simp at hx hv; subst hx; subst hv; exact ⟨hr2, hu2⟩
 | 3, hx, hv => simp at hx hv; subst hx; subst hv; exact ⟨.v _, rfl⟩
 | j + 4, hx, hv => simp at hx
end Go.Proofs.YtniljpjjnmkoaaaGreatDoor.Ab
set_option maxRecDepth 4000
namespace Go.Proofs.YtniljpjjnmkoaaaGreatDoor.Ab
open Go.Proofs
end Go.Proofs.YtniljpjjnmkoaaaGreatDoor.Ab
