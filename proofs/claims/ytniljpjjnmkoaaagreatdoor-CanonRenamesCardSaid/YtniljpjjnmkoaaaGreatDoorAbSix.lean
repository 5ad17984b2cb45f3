/-
  An abstract program logic, contracts of functions, and laws of terms and rules (part 6).
-/
import Derived.Test.YtniljpjjnmkoaaaGreatDoorAbFive
import Derived.Test.YtniljpjjnmkoaaaGreatDoorAbTwo
import Derived.Test.YtniljpjjnmkoaaaGreatDoorAbFour
set_option linter.unusedVariables false
set_option linter.unusedSimpArgs false
set_option maxHeartbeats 4000000
set_option maxRecDepth 4000
namespace Go.Proofs.YtniljpjjnmkoaaaGreatDoor.Ab
open Go.Proofs
mutual
theorem T.Qo4 : ∀ (t : T), t.vars.length ≤ t.nds
 | .mk k i n l => by
  simp only [T.vars, T.nds]
  split
  ·simp
  ·split
   ·have := Z4 l; omega
   ·simp
theorem Z4 : ∀ (l : List T), (varss l).length ≤ ndsL l
 | [] => by simp [varss, ndsL]
 | t :: l => by
  have h1 := T.Qo4 t
  have h2 := Z4 l
  simp only [varss, ndsL, QqD]; omega
end
theorem QmL (u : List Int) (own : Option Nat) (n : Int) (hb : u.length ≤ 1000000) : Pure Tryz.prog 84 [.sl 1 (ints u) own, .i n] (.b (decide (n ∈ u))) := by
 intro h
 refine Qh Tryz.func84 rfl Tryz.call84 Tryz.ntmps84 (congrArg Array.toList Tryz.results84) (by simp) ?_
 repeat (first | (((with_reducible refine Qa fun K E hK hE => ?_)); simp -implicitDefEqProofs only [Qe, Qf, OpW, aop, AS.ev, Nat.reduceLT]) | (with_reducible (first | refine Qd fun K hK => ?_ | refine Qi ?_)) | ((with_reducible refine hK _ ?_); clear hK))
 obtain ⟨I, hI⟩ : ∃ I : Nat → AS → Prop, I = fun m' s => ∃ j : Nat, m' = u.length - j ∧ j ≤ u.length ∧ (n ∈ u ↔ n ∈ u.drop j) ∧ s.tm 0 = .sl 1 (ints u) own ∧ s.tm 1 = .i n ∧ s.tm 5 = .i j ∧ s.h = h := ⟨_, rfl⟩; refine QI I ?_ (m := u.length) ?_
 ·intro m' s hs; rw [hI] at hs; obtain ⟨tm, hp⟩ := s; dsimp only at hs; obtain ⟨j, rfl, hj, he, t0, t1, t5, rfl⟩ := hs
  by_cases hlt : j < u.length
  ·rw [List.drop_eq_getElem_cons hlt, List.mem_cons] at he
   by_cases hz : u[j] = n
   ·have hb1 : (u[j] == n) = true := by simpa using hz
    have hm : n ∈ u := he.2 (.inl hz.symm)
    repeat (first | (((with_reducible refine Qa fun K E hK hE => ?_)); simp -implicitDefEqProofs only [Qe, Qf, OpW, aop, AS.ev, ↓reduceIte, QA, QB, Qt, aBin, aLen, goInt, ti3, ei49, un49, t0, t1, t5, hlt, XK hlt, hb1, seval]) | (with_reducible (first | refine Qd fun K hK => ?_ | refine Qi ?_ | refine Qj ?_ | refine Qn ?_ | refine Qb ?_ | refine Qq ?_ | refine Qs ?_)) | ((with_reducible refine hK _ ?_); clear hK) | (refine Qg rfl ?_; simp only [↓reduceIte]))
    simp only [QD, Ql, Qr, upd, ↓reduceIte, QpS, QpW]
    exact Qc List.take_length (.keep (.v _)) ⟨by rw [decide_eq_true hm], rfl⟩
   ·have hb1 : (u[j] == n) = false := by simpa using hz
    repeat (first | ((first | (with_reducible (first | refine Qa fun K E hK hE => ?_ | refine Qk fun K E hK hE => ?_))); simp -implicitDefEqProofs only [Qe, Qf, OpW, aop, AS.ev, ↓reduceIte, QA, QB, Qt, aBin, aLen, goInt, ti3, ei49, un49, t0, t1, t5, hlt, XK hlt, hb1, seval]) | (with_reducible (first | refine Qd fun K hK => ?_ | refine Qi ?_ | refine Qn ?_ | refine Qb ?_ | refine Qo ?_)) | ((with_reducible refine hK _ ?_); clear hK) | (refine Qg rfl ?_; simp only [↓reduceIte, QpQ]))
    refine QV.mk (m' := u.length - (j + 1)) (by omega) ?_
    rw [hI]
    refine ⟨j + 1, rfl, hlt, he.trans ⟨fun h => h.elim (fun e => absurd e.symm hz) id, .inr⟩, t0, t1, ?_, rfl⟩
    simp only [upd, ↓reduceIte]
    rw [QP (by omega)]
  ·have hjl : j = u.length := by omega
   rw [hjl, List.drop_length] at he
   have hm : ¬ n ∈ u := fun h => by simpa using he.1 h
   repeat (first | (((with_reducible refine Qa fun K E hK hE => ?_)); simp -implicitDefEqProofs only [Qe, Qf, OpW, aop, AS.ev, ↓reduceIte, aBin, aLen, goInt, un49, t0, t5, hlt, seval]) | (with_reducible (first | refine Qd fun K hK => ?_ | refine Qj ?_ | refine QC ?_ | refine Qb ?_ | refine Qw ?_ | refine Qy ?_)) | ((with_reducible refine hK _ ?_); clear hK) | (clear hK; (with_reducible refine hK _ ?_); clear hK) | (refine Qg rfl ?_; simp only [↓reduceIte, QpQ]))
   simp only [QD, Ql, Qr, upd, ↓reduceIte, QpS, QpW]
   exact Qc List.take_length (.keep (.v _)) ⟨by rw [decide_eq_false hm], rfl⟩
 ·rw [hI]
  exact ⟨0, by omega, Nat.zero_le _, by simp, rfl, rfl, rfl, rfl⟩
structure TokOk (H : Nat → AH) (m k e s : Nat) : Prop where
 len : ∀ n, (H n).length = m
 lt : k < m
 get : ∀ n, (H n)[k]? = some (.grow e s n)
 set : ∀ n n', (H n).set k (.grow e s n') = H n'
theorem TokOk.old {H : Nat → AH} {m k e s : Nat} (V : TokOk H m k e s) : ∀ n n' (i : Nat) b, (H n')[i]? = some b → (H n)[i]? = some b ∨ b.Below m := by
 intro n n' i b hb
 rw [← V.set n n'] at hb
 by_cases hi : k = i
 ·subst hi
  rw [List.getElem?_set_self (by rw [V.len]; exact V.lt)] at hb
  cases hb
  exact .inr trivial
 ·rw [List.getElem?_set_ne hi] at hb
  exact .inl hb
theorem T.Qpr (t : T) : t.vars = if t.kind = 1 then [t.int] else varss t.uses := by
 cases t with | mk k i n l =>
 show T.vars (.mk k i n l) = if k = 1 then [i] else varss (if k = 2 then l else [])
 simp only [T.vars]
 by_cases h1 : k = 1
 ·rw [if_pos h1, if_pos h1]
 ·rw [if_neg h1, if_neg h1]
  by_cases h2 : k = 2
  ·rw [if_pos h2, if_pos h2]
  ·rw [if_neg h2, if_neg h2]; rfl
theorem YY {H : Nat → AH} {m k : Nat} (V : TokOk H m k 3 1) : ∀ n, n ≤ 1000000 → ∀ (t : T) (u : List Int) (L : AH), t.nds ≤ n → u.length + t.nds ≤ 1000000 →
  Xf Tryz.prog 46 [.sl 1 (ints u) (some k), t.av] (H u.length ++ L) fun o h' => o = .ret (.sl 1 (ints (ded u t.vars)) (some k)) ∧ h' = H (ded u t.vars).length ++ L
 | 0, _, t, _, _, hn, _ => by have := T.Qo1 t; omega
 | n + 1, hb, t, u, L, hn, hu => by
  have e := T.Qpr t
  have hnd := T.Qo1 t
  have hm := V.len
  have gk : ∀ (n : Nat) (L : AH) (k : Nat), (H n ++ L)[m + k]? = L[k]? := fun u L k => by rw [← hm u]; exact hget _ _ _
  have sk : ∀ (n : Nat) (L : AH) (k : Nat) (b : AB), (H n ++ L).set (m + k) b = H n ++ L.set k b := fun u L k b => by rw [← hm u]; exact hset _ _ _ _
  have gt : ∀ (n : Nat) (L : AH), (H n ++ L)[k]? = some (.grow 3 1 n) := fun n L => by rw [List.getElem?_append_left (by rw [hm]; exact V.lt)]; exact V.get n
  have st : ∀ (n n' : Nat) (L : AH), (H n ++ L).set k (.grow 3 1 n') = H n' ++ L := fun n n' L => by rw [List.set_append_left _ _ (by rw [hm]; exact V.lt), V.set]
  have ca := Z9 t
  have ch := QmL u (some k) t.int (by omega)
  have hlu := QW t.uses
  have hul := Zf t
  by_cases h1 : t.kind = 1
  ·have b1 : (t.kind == 1) = true := by simpa using h1
   have hus : t.uses = [] := by unfold T.uses; rw [if_neg (by omega)]
   rw [if_pos h1] at e
   by_cases hmem : t.int ∈ u
   ·have hed : ded u t.vars = ded u (varss (t.uses.drop 0)) := by rw [e, hus]; exact if_pos hmem
    have hlen' : u.length + ndsL (t.uses.drop 0) ≤ 1000000 := by rw [List.drop_zero]; omega
    rw [decide_eq_true hmem] at ch
    refine Qh Tryz.func46 rfl Tryz.call46 Tryz.ntmps46 (congrArg Array.toList Tryz.results46) (by simp) ?_
    repeat (first | ((first | (with_reducible (first | refine Qa fun K E hK hE => ?_ | refine Qp ca ?_ | refine Qp ch ?_))); simp -implicitDefEqProofs only [Qe, Qf, OpW, QK, aop, undef, AS.ev, Qv, AV.QoY, ↓reduceIte, Qm, QA, QB, aBin, ti3, ti41, QX, Q9, b1, hm, gk, seval]) | (with_reducible (first | refine Qd fun K hK => ?_ | refine Qi ?_ | refine Qn ?_ | refine Qb ?_)) | ((with_reducible refine hK _ ?_); clear hK) | (refine Qg rfl ?_; simp only [↓reduceIte, QpQ]))
    obtain ⟨I, hI⟩ : ∃ I : Nat → AS → Prop, I = fun m' s => ∃ (j : Nat) (v : List Int) (M : AH), m' = t.uses.length - j ∧ j ≤ t.uses.length ∧ ded u t.vars = ded v (varss (t.uses.drop j)) ∧ v.length + ndsL (t.uses.drop j) ≤ 1000000 ∧ s.tm 0 = .sl 1 (ints v) (some k) ∧ s.tm 5 = .sl 4 (avs t.uses) none ∧ s.tm 6 = .i j ∧ s.h = H v.length ++ (L ++ M) := ⟨_, rfl⟩; refine QI I ?_ (m := t.uses.length) ?_
    ·intro m' s hs; rw [hI] at hs; obtain ⟨tm, hp⟩ := s; dsimp only at hs; obtain ⟨j, v, M, rfl, hj, hw, hv, t0, t5, t6, rfl⟩ := hs
     by_cases hlt : j < t.uses.length
     ·rw [List.drop_eq_getElem_cons hlt] at hw hv
      simp only [varss, YV] at hw
      simp only [ndsL] at hv
      have hcc := fun L => YY V n (by omega) t.uses[j] v L (Nat.le_trans (XM hlt) (by omega)) (by omega)
      have hdl := YW v (t.uses[j]).vars
      have hvl := T.Qo4 t.uses[j]
      repeat (first | ((first | (with_reducible (first | refine Qa fun K E hK hE => ?_ | refine Qk fun K E hK hE => ?_ | refine FunW.ret (FunW.call (hcc _)) ?_))); simp -implicitDefEqProofs only [Qe, Qf, OpW, QK, aop, AS.ev, ↓reduceIte, QA, QB, Qt, aBin, aLen, goInt, ei29, un29, ti41, t0, t5, t6, hlt, Q3 hlt, seval]) | (with_reducible (first | refine Qd fun K hK => ?_ | refine Qi ?_ | refine Qn ?_ | refine Qb ?_ | refine Qo ?_)) | ((with_reducible refine hK _ ?_); clear hK) | (refine Qg rfl ?_; simp only [↓reduceIte]))
      refine QV.mk (m' := t.uses.length - (j + 1)) (by omega) ?_
      rw [hI]
      refine ⟨j + 1, _, _, rfl, hlt, hw, by omega, rfl, t5, ?_, rfl⟩
      simp only [upd, ↓reduceIte]
      rw [QP (by omega)]
     ·have hjl : j = t.uses.length := by omega
      rw [hjl, List.drop_length] at hw
      simp only [varss, ded] at hw
      repeat (first | (((with_reducible refine Qa fun K E hK hE => ?_)); simp -implicitDefEqProofs only [Qe, Qf, OpW, aop, AS.ev, ↓reduceIte, aBin, aLen, goInt, un29, t0, t5, t6, hlt, seval]) | (with_reducible (first | refine Qd fun K hK => ?_ | refine Qj ?_ | refine QC ?_ | refine Qb ?_ | refine Qw ?_ | refine Qy ?_)) | ((with_reducible refine hK _ ?_); clear hK) | (clear hK; (with_reducible refine hK _ ?_); clear hK) | (refine Qg rfl ?_; simp only [↓reduceIte, QpQ]))
      simp only [QD, Ql, Qr, upd, ↓reduceIte, QpS, QpW]
      exact X2 V.len V.old (.keep (.sl 1 _ _ (Yh _ _) (fun b hb => by cases hb; have := V.lt; omega))) ⟨by rw [hw], by rw [hw]⟩
    ·rw [hI]
     exact ⟨0, _, _, by omega, Nat.zero_le _, hed, hlen', rfl, rfl, rfl, rfl⟩
   ·have hed : ded u t.vars = ded (u ++ [t.int]) (varss (t.uses.drop 0)) := by rw [e, hus]; exact if_neg hmem
    have hlen' : (u ++ [t.int]).length + ndsL (t.uses.drop 0) ≤ 1000000 := by rw [hus, List.length_append]; simp only [List.drop_nil, ndsL, List.length_singleton]; omega
    rw [decide_eq_false hmem] at ch
    have hb1 : u.length + 1 ≤ maxLen := by simp only [maxLen]; omega
    have hb2 : (u.length + 1) * 8 ≤ 140737488355328 := by omega
    refine Qh Tryz.func46 rfl Tryz.call46 Tryz.ntmps46 (congrArg Array.toList Tryz.results46) (by simp) ?_
    repeat (first | ((first | (with_reducible (first | refine Qa fun K E hK hE => ?_ | refine Qk fun K E hK hE => ?_ | refine Qp ca ?_ | refine Qp ch ?_))); simp -implicitDefEqProofs only [Qe, Qf, OpW, QK, aop, undef, AS.ev, Qv, AV.QoY, ↓reduceIte, Qm, QA, QB, aBin, QM, Xr, XS, ti3, zi3, ti41, QX, Q9, ei49, ai49, b1, hm, gk, gt, st, hb1, hb2, seval]) | (with_reducible (first | refine Qd fun K hK => ?_ | refine Qi ?_ | refine Qb ?_)) | ((with_reducible refine hK _ ?_); clear hK) | (refine Qg rfl ?_; simp only [↓reduceIte]))
    obtain ⟨I, hI⟩ : ∃ I : Nat → AS → Prop, I = fun m' s => ∃ (j : Nat) (v : List Int) (M : AH), m' = t.uses.length - j ∧ j ≤ t.uses.length ∧ ded u t.vars = ded v (varss (t.uses.drop j)) ∧ v.length + ndsL (t.uses.drop j) ≤ 1000000 ∧ s.tm 0 = .sl 1 (ints v) (some k) ∧ s.tm 5 = .sl 4 (avs t.uses) none ∧ s.tm 6 = .i j ∧ s.h = H v.length ++ (L ++ M) := ⟨_, rfl⟩; refine QI I ?_ (m := t.uses.length) ?_
    ·intro m' s hs; rw [hI] at hs; obtain ⟨tm, hp⟩ := s; dsimp only at hs; obtain ⟨j, v, M, rfl, hj, hw, hv, t0, t5, t6, rfl⟩ := hs
     by_cases hlt : j < t.uses.length
     ·rw [List.drop_eq_getElem_cons hlt] at hw hv
      simp only [varss, YV] at hw
      simp only [ndsL] at hv
      have hcc := fun L => YY V n (by omega) t.uses[j] v L (Nat.le_trans (XM hlt) (by omega)) (by omega)
      have hdl := YW v (t.uses[j]).vars
      have hvl := T.Qo4 t.uses[j]
      repeat (first | ((first | (with_reducible (first | refine Qa fun K E hK hE => ?_ | refine Qk fun K E hK hE => ?_ | refine FunW.ret (FunW.call (hcc _)) ?_))); simp -implicitDefEqProofs only [Qe, Qf, OpW, QK, aop, AS.ev, ↓reduceIte, QA, QB, Qt, aBin, aLen, goInt, ei29, un29, ti41, t0, t5, t6, hlt, Q3 hlt, seval]) | (with_reducible (first | refine Qd fun K hK => ?_ | refine Qi ?_ | refine Qn ?_ | refine Qb ?_ | refine Qo ?_)) | ((with_reducible refine hK _ ?_); clear hK) | (refine Qg rfl ?_; simp only [↓reduceIte]))
      refine QV.mk (m' := t.uses.length - (j + 1)) (by omega) ?_
      rw [hI]
      refine ⟨j + 1, _, _, rfl, hlt, hw, by omega, rfl, t5, ?_, rfl⟩
      simp only [upd, ↓reduceIte]
      rw [QP (by omega)]
     ·have hjl : j = t.uses.length := by omega
      rw [hjl, List.drop_length] at hw
      simp only [varss, ded] at hw
      repeat (first | (((with_reducible refine Qa fun K E hK hE => ?_)); simp -implicitDefEqProofs only [Qe, Qf, OpW, aop, AS.ev, ↓reduceIte, aBin, aLen, goInt, un29, t0, t5, t6, hlt, seval]) | (with_reducible (first | refine Qd fun K hK => ?_ | refine Qj ?_ | refine QC ?_ | refine Qb ?_ | refine Qw ?_ | refine Qy ?_)) | ((with_reducible refine hK _ ?_); clear hK) | (clear hK; (with_reducible refine hK _ ?_); clear hK) | (refine Qg rfl ?_; simp only [↓reduceIte, QpQ]))
      simp only [QD, Ql, Qr, upd, ↓reduceIte, QpS, QpW]
      exact X2 V.len V.old (.keep (.sl 1 _ _ (Yh _ _) (fun b hb => by cases hb; have := V.lt; omega))) ⟨by rw [hw], by rw [hw]⟩
    ·rw [hI]
     exact ⟨0, _, _, by omega, Nat.zero_le _, hed, hlen', by rw [XI, Qiv]; rfl, rfl, rfl, by rw [List.length_append]; rfl⟩
  ·have b1 : (t.kind == 1) = false := by simpa using h1
   rw [if_neg h1] at e
   have hed : ded u t.vars = ded u (varss (t.uses.drop 0)) := by rw [e, List.drop_zero]
   have hlen' : u.length + ndsL (t.uses.drop 0) ≤ 1000000 := by rw [List.drop_zero]; omega
   refine Qh Tryz.func46 rfl Tryz.call46 Tryz.ntmps46 (congrArg Array.toList Tryz.results46) (by simp) ?_
   repeat (first | ((first | (with_reducible (first | refine Qa fun K E hK hE => ?_ | refine Qp ca ?_))); simp -implicitDefEqProofs only [Qe, Qf, OpW, QK, aop, undef, AS.ev, Qv, AV.QoY, ↓reduceIte, Qm, QA, QB, aBin, ti3, ti41, QX, b1, hm, gk, seval]) | (with_reducible (first | refine Qd fun K hK => ?_ | refine Qi ?_ | refine Qn ?_ | refine Qb ?_)) | ((with_reducible refine hK _ ?_); clear hK) | (refine Qg rfl ?_; simp only [↓reduceIte, QpQ]))
   obtain ⟨I, hI⟩ : ∃ I : Nat → AS → Prop, I = fun m' s => ∃ (j : Nat) (v : List Int) (M : AH), m' = t.uses.length - j ∧ j ≤ t.uses.length ∧ ded u t.vars = ded v (varss (t.uses.drop j)) ∧ v.length + ndsL (t.uses.drop j) ≤ 1000000 ∧ s.tm 0 = .sl 1 (ints v) (some k) ∧ s.tm 5 = .sl 4 (avs t.uses) none ∧ s.tm 6 = .i j ∧ s.h = H v.length ++ (L ++ M) := ⟨_, rfl⟩; refine QI I ?_ (m := t.uses.length) ?_
   ·intro m' s hs; rw [hI] at hs; obtain ⟨tm, hp⟩ := s; dsimp only at hs; obtain ⟨j, v, M, rfl, hj, hw, hv, t0, t5, t6, rfl⟩ := hs
    by_cases hlt : j < t.uses.length
    ·rw [List.drop_eq_getElem_cons hlt] at hw hv
     simp only [varss, YV] at hw
     simp only [ndsL] at hv
     have hcc := fun L => YY V n (by omega) t.uses[j] v L (Nat.le_trans (XM hlt) (by omega)) (by omega)
     have hdl := YW v (t.uses[j]).vars
     have hvl := T.Qo4 t.uses[j]
     repeat (first | ((first | (with_reducible (first | refine Qa fun K E hK hE => ?_ | refine Qk fun K E hK hE => ?_ | refine FunW.ret (FunW.call (hcc _)) ?_))); simp -implicitDefEqProofs only [Qe, Qf, OpW, QK, aop, AS.ev, ↓reduceIte, QA, QB, Qt, aBin, aLen, goInt, ei29, un29, ti41, t0, t5, t6, hlt, Q3 hlt, seval]) | (with_reducible (first | refine Qd fun K hK => ?_ | refine Qi ?_ | refine Qn ?_ | refine Qb ?_ | refine Qo ?_)) | ((with_reducible refine hK _ ?_); clear hK) | (refine Qg rfl ?_; simp only [↓reduceIte]))
     refine QV.mk (m' := t.uses.length - (j + 1)) (by omega) ?_
     rw [hI]
     refine ⟨j + 1, _, _, rfl, hlt, hw, by omega, rfl, t5, ?_, rfl⟩
     simp only [upd, ↓reduceIte]
     rw [QP (by omega)]
    ·have hjl : j = t.uses.length := by omega
     rw [hjl, List.drop_length] at hw
     simp only [varss, ded] at hw
     repeat (first | (((with_reducible refine Qa fun K E hK hE => ?_)); simp -implicitDefEqProofs only [Qe, Qf, OpW, aop, AS.ev, ↓reduceIte, aBin, aLen, goInt, un29, t0, t5, t6, hlt, seval]) | (with_reducible (first | refine Qd fun K hK => ?_ | refine Qj ?_ | refine QC ?_ | refine Qb ?_ | refine Qw ?_ | refine Qy ?_)) | ((with_reducible refine hK _ ?_); clear hK) | (clear hK; (with_reducible refine hK _ ?_); clear hK) | (refine Qg rfl ?_; simp only [↓reduceIte, QpQ]))
     simp only [QD, Ql, Qr, upd, ↓reduceIte, QpS, QpW]
     exact X2 V.len V.old (.keep (.sl 1 _ _ (Yh _ _) (fun b hb => by cases hb; have := V.lt; omega))) ⟨by rw [hw], by rw [hw]⟩
   ·rw [hI]
    exact ⟨0, _, _, by omega, Nat.zero_le _, hed, hlen', rfl, rfl, rfl, rfl⟩
theorem Qgb (h : AH) (e s : Nat) : TokOk (fun n => h ++ [.grow e s n]) (h.length + 1) h.length e s where
 len := fun n => by simp
 lt := by omega
 get := fun n => by rw [Qfz]; rfl
 set := fun n n' => by rw [Qjx]; rfl
theorem Qd3 (l : List T) (hn : ndsL l ≤ 1000000) : Pure Tryz.prog 18 [.sl 4 (avs l) none] (.sl 1 (ints (ded [] (varss l))) none) := by
 intro h
 have hll := QW l
 refine Qh Tryz.func18 rfl Tryz.call18 Tryz.ntmps18 (congrArg Array.toList Tryz.results18) (by simp) ?_
 repeat (first | (((with_reducible refine Qa fun K E hK hE => ?_)); simp -implicitDefEqProofs only [Qe, Qf, OpW, aop, AS.ev, Nat.reduceLT]) | (with_reducible (first | refine Qd fun K hK => ?_ | refine Qi ?_)) | ((with_reducible refine hK _ ?_); clear hK))
 refine XQ 3 3 1 rfl ?_
 obtain ⟨I, hI⟩ : ∃ I : Nat → AS → Prop, I = fun m' s => ∃ (j : Nat) (v : List Int) (M : AH), m' = l.length - j ∧ j ≤ l.length ∧ ded [] (varss l) = ded v (varss (l.drop j)) ∧ v.length + ndsL (l.drop j) ≤ 1000000 ∧ s.tm 0 = .sl 4 (avs l) none ∧ s.tm 3 = .sl 1 (ints v) (some h.length) ∧ s.tm 4 = .i j ∧ s.h = h ++ ([.grow 3 1 v.length] ++ M) := ⟨_, rfl⟩; refine QI I ?_ (m := l.length) ?_
 ·intro m' s hs; rw [hI] at hs; obtain ⟨tm, hp⟩ := s; dsimp only at hs; obtain ⟨j, v, M, rfl, hj, hw, hv, t0, t3, t4, rfl⟩ := hs
  by_cases hlt : j < l.length
  ·rw [List.drop_eq_getElem_cons hlt] at hw hv
   simp only [varss, YV] at hw
   simp only [ndsL] at hv
   have hcc := fun L => YY (Qgb h 3 1) 1000000 (Nat.le_refl _) l[j] v L (Nat.le_trans (XM hlt) (by omega)) (by omega)
   simp only [List.append_assoc, Qqe, Qqd] at hcc
   have hdl := YW v (l[j]).vars
   have hvl := T.Qo4 l[j]
   repeat (first | ((first | (with_reducible (first | refine Qa fun K E hK hE => ?_ | refine Qk fun K E hK hE => ?_ | refine FunW.ret (FunW.call (hcc _)) ?_))); simp -implicitDefEqProofs only [Qe, Qf, OpW, QK, aop, AS.ev, ↓reduceIte, QA, QB, Qt, aBin, aLen, goInt, ei29, un29, ti41, t0, t3, t4, hlt, Q3 hlt, seval]) | (with_reducible (first | refine Qd fun K hK => ?_ | refine Qi ?_ | refine Qn ?_ | refine Qb ?_ | refine Qo ?_)) | ((with_reducible refine hK _ ?_); clear hK) | (refine Qg rfl ?_; simp only [↓reduceIte]))
   refine QV.mk (m' := l.length - (j + 1)) (by omega) ?_
   rw [hI]
   refine ⟨j + 1, _, _, rfl, hlt, hw, by omega, t0, rfl, ?_, rfl⟩
   simp only [upd, ↓reduceIte]
   rw [QP (by omega)]
  ·have hjl : j = l.length := by omega
   rw [hjl, List.drop_length] at hw
   simp only [varss, ded] at hw
   repeat (first | (((with_reducible refine Qa fun K E hK hE => ?_)); simp -implicitDefEqProofs only [Qe, Qf, OpW, aop, AS.ev, ↓reduceIte, aBin, aLen, goInt, un29, t0, t3, t4, hlt, seval]) | (with_reducible (first | refine Qd fun K hK => ?_ | refine Qj ?_ | refine QC ?_ | refine Qb ?_ | refine Qw ?_ | refine Qy ?_)) | ((with_reducible refine hK _ ?_); clear hK) | (clear hK; (with_reducible refine hK _ ?_); clear hK) | (refine Qg rfl ?_; simp only [↓reduceIte, QpQ]))
   simp only [QD, Ql, Qr, upd, ↓reduceIte, QpS, QpW]
   exact Qc (htake _ _) (.tok (Yh _ _)) ⟨by rw [hw], rfl⟩
 ·rw [hI]
  exact ⟨0, [], [], by omega, Nat.zero_le _, rfl, by simpa using hn, rfl, rfl, rfl, rfl⟩
theorem QfP (t : T) (hn : t.nds ≤ 1000000) : Pure Tryz.prog 83 [t.av] (.sl 1 (ints (ded [] t.vars)) none) := by
 intro h
 refine Qh Tryz.func83 rfl Tryz.call83 Tryz.ntmps83 (congrArg Array.toList Tryz.results83) (by simp) ?_
 repeat (first | (((with_reducible refine Qa fun K E hK hE => ?_)); simp -implicitDefEqProofs only [Qe, Qf, OpW, aop, undef, AS.ev, Qv, AV.QoY, ↓reduceIte, QA, QB, ti41, seval]) | ((with_reducible refine hK _ ?_); clear hK))
 refine Qhz 3 1 ?_
 have hcc := YY (Qgb (h ++ [.cells 41 4 [t.av]]) 3 1) 1000000 (Nat.le_refl _) t [] [] hn (by simpa using hn)
 simp only [List.append_assoc, Qqe, Qqd, Qqf, Ql2, Qp0] at hcc
 simp -implicitDefEqProofs only [Qe]
 simp only [hlen, QpZ, Qp0] at hcc
 repeat (first | (((with_reducible refine Za hcc ?_)); simp -implicitDefEqProofs only [Qe, Qf, OpW, QK, aop, AS.ev, ↓reduceIte, Nat.reduceLT]) | (with_reducible refine Qj ?_) | ((with_reducible refine hK _ ?_); clear hK))
 simp only [QD, Ql, Qr, upd, ↓reduceIte, QpS, QpW]; first | refine Qc (htake _ _) (.tok (Yh _ _)) ⟨rfl, rfl⟩ | refine Qc List.take_length (.tok (Yh _ _)) ⟨rfl, rfl⟩
theorem Qks (s : List Int) (n : Int) : YM s n = (true, ded s [n]) := by simp only [YM, ded, ins]
theorem Qlp : ∀ (n : Nat) (l : List T), ndsL l ≤ n → ∀ s : List Int, walks YM s l = (true, ded s (varss l)) := by
 intro n
 induction n with
 | zero =>
  intro l hl s
  cases l with
  | nil => rfl
  | cons t l => simp only [ndsL] at hl; have := T.Qo1 t; omega
 | succ n ih =>
  intro l hl s
  cases l with
  | nil => rfl
  | cons t l =>
   simp only [ndsL] at hl
   have hnd := T.Qo1 t
   have h1 : T.walk YM s t = (true, ded s t.vars) := by
    rw [T.walk_eq, T.Qpr]
    split
    ·exact Qks _ _
    ·exact ih _ (by have := Zf t; omega) s
   simp only [walks, h1, ↓reduceIte, varss, YV]
   exact ih l (by omega) _
theorem Qds (t : T) : XT t = ded [] t.vars := by
 rw [XT, Qlp _ [t] (Nat.le_refl _)]
 simp only [varss, Qqf]
theorem QbP (b : List (Int × T)) (v : Int) : (XB b v).isSome = bound b v := by
 induction b with
 | nil => rfl
 | cons x b ih =>
  simp only [XB, bound, List.any_cons]
  by_cases h : x.1 = v
  ·rw [if_pos h]; simp [h]
  ·rw [if_neg h, ih]
   have : (x.1 == v) = false := by simpa using h
   rw [this, Bool.false_or]; rfl
theorem QfM (b : List (Int × T)) (hb : b.length ≤ 1000000) (hn : ∀ x ∈ b, x.2.nds ≤ 1000000) : Pure Tryz.prog 43 [.sl 5 (bavs b) none] (.b (Zh b b)) := by
 intro h
 refine Qh Tryz.func43 rfl Tryz.call43 Tryz.ntmps43 (congrArg Array.toList Tryz.results43) (by simp) ?_
 repeat (first | (((with_reducible refine Qa fun K E hK hE => ?_)); simp -implicitDefEqProofs only [Qe, Qf, OpW, aop, AS.ev, Nat.reduceLT]) | (with_reducible (first | refine Qd fun K hK => ?_ | refine Qi ?_)) | ((with_reducible refine hK _ ?_); clear hK))
 obtain ⟨I, hI⟩ : ∃ I : Nat → AS → Prop, I = fun m' s => ∃ (j : Nat) (L : AH), m' = b.length - j ∧ j ≤ b.length ∧ Zh b b = Zh b (b.drop j) ∧ s.tm 0 = .sl 5 (bavs b) none ∧ s.tm 3 = .i j ∧ s.h = h ++ L := ⟨_, rfl⟩; refine QI I ?_ (m := b.length) ?_
 ·have hO := hI
  intro m' s hs; rw [hI] at hs; obtain ⟨tm, hp⟩ := s; dsimp only at hs; obtain ⟨j, L, rfl, hj, hr2, t0, t3, rfl⟩ := hs
  by_cases hlt : j < b.length
  ·rw [List.drop_eq_getElem_cons hlt] at hr2
   have hnn : b[j].2.nds ≤ 1000000 := hn b[j] (List.getElem_mem hlt)
   have c2 := QfP b[j].2 hnn
   rw [← Qds, T.Qo7] at c2
   have hvl : (XT b[j].2).length ≤ 1000000 := Qaj _ hnn
   repeat (first | ((first | (with_reducible (first | refine Qa fun K E hK hE => ?_ | refine Qp c2 ?_))); simp -implicitDefEqProofs only [Qe, Qf, OpW, QK, aop, AS.ev, ↓reduceIte, Qm, QA, QB, Qt, aBin, aLen, goInt, ei23, un23, ti41, Zc, t0, t3, hlt, QL, QY hlt, QN, Xh, seval]) | (with_reducible (first | refine Qd fun K hK => ?_ | refine Qi ?_ | refine Qn ?_ | refine Qb ?_)) | ((with_reducible refine hK _ ?_); clear hK) | (refine Qg rfl ?_; simp only [↓reduceIte]))
   obtain ⟨I, hI⟩ : ∃ I : Nat → AS → Prop, I = fun m' s => ∃ (k : Nat) (M : AH), m' = (XT b[j].2).length - k ∧ k ≤ (XT b[j].2).length ∧ ((XT b[j].2).all fun v => !bound b v) = (((XT b[j].2).drop k).all fun v => !bound b v) ∧ s.tm 0 = .sl 5 (bavs b) none ∧ s.tm 3 = .i j ∧ s.tm 4 = .sl 1 (ints (XT b[j].2)) none ∧ s.tm 5 = .i k ∧ s.h = h ++ M := ⟨_, rfl⟩; refine QI I ?_ (m := (XT b[j].2).length) ?_
   ·intro m' s hs; rw [hI] at hs; obtain ⟨tm, hp⟩ := s; dsimp only at hs; obtain ⟨k, M, rfl, hk, hr3, t0, t3, t4, t5, rfl⟩ := hs
    by_cases hkl : k < (XT b[j].2).length
    ·rw [List.drop_eq_getElem_cons hkl, List.all_cons] at hr3
     have cl := QaX b (XT b[j].2)[k] hb
     rw [QbP] at cl
     cases hbv : bound b (XT b[j].2)[k] with
     | true =>
      rw [hbv] at cl
      have e2 : Zh b b = false := by
       rw [hr2, Zh, List.all_cons]
       rw [hr3, hbv]; rfl
      repeat (first | ((first | (with_reducible (first | refine Qa fun K E hK hE => ?_ | refine Qp cl ?_))); simp -implicitDefEqProofs only [Qe, Qf, OpW, QK, aop, undef, AS.ev, AV.QoY, ↓reduceIte, QA, QB, QO, QH, Qt, aBin, Xo, aLen, goInt, ti3, ti41, zi41, ei49, un49, t0, t4, t5, hkl, XK hkl, seval]) | (with_reducible (first | refine Qd fun K hK => ?_ | refine Qi ?_ | refine Qj ?_ | refine Qn ?_ | refine Qb ?_ | refine Qq ?_ | refine Qs ?_)) | ((with_reducible refine hK _ ?_); clear hK) | (refine Qg rfl ?_; simp only [↓reduceIte]))
      simp only [QD, Ql, Qr, upd, ↓reduceIte, QpS, QpW]; first | refine Qc (htake _ _) (.keep (.v _)) ⟨by rw [e2], rfl⟩ | refine Qc List.take_length (.keep (.v _)) ⟨by rw [e2], rfl⟩
     | false =>
      rw [hbv] at cl
      repeat (first | ((first | (with_reducible (first | refine Qa fun K E hK hE => ?_ | refine Qk fun K E hK hE => ?_ | refine Qp cl ?_))); simp -implicitDefEqProofs only [Qe, Qf, OpW, QK, aop, undef, AS.ev, AV.QoY, ↓reduceIte, QA, QB, QO, QH, Qt, aBin, Xo, aLen, goInt, ti3, ti41, zi41, ei49, un49, t0, t4, t5, hkl, XK hkl, seval]) | (with_reducible (first | refine Qd fun K hK => ?_ | refine Qi ?_ | refine Qn ?_ | refine Qb ?_ | refine Qo ?_)) | ((with_reducible refine hK _ ?_); clear hK) | (refine Qg rfl ?_; simp only [↓reduceIte, QpQ]))
      refine QV.mk (m' := (XT b[j].2).length - (k + 1)) (by omega) ?_
      rw [hI]
      refine ⟨k + 1, _, rfl, hkl, ?_, t0, t3, t4, ?_, rfl⟩
      ·rw [hr3, hbv]; rfl
      ·simp only [upd, ↓reduceIte]
       rw [QP (by omega)]
    ·have hke : k = (XT b[j].2).length := by omega
     rw [hke, List.drop_length] at hr3
     repeat (first | ((first | (with_reducible (first | refine Qa fun K E hK hE => ?_ | refine Qk fun K E hK hE => ?_))); simp -implicitDefEqProofs only [Qe, Qf, OpW, aop, AS.ev, ↓reduceIte, aBin, aLen, goInt, un49, t3, t4, t5, hkl, seval]) | (with_reducible (first | refine Qd fun K hK => ?_ | refine QC ?_ | refine Qb ?_ | refine Qw ?_ | refine Qo ?_ | refine Qy ?_)) | ((with_reducible refine hK _ ?_); clear hK) | (clear hK; (with_reducible refine hK _ ?_); clear hK) | (refine Qg rfl ?_; simp only [↓reduceIte, QpQ]))
     refine QV.mk (m' := b.length - (j + 1)) (by omega) ?_
     rw [hO]
     refine ⟨j + 1, M, rfl, hlt, ?_, t0, ?_, rfl⟩
     ·rw [hr2, Zh, List.all_cons, hr3]; rfl
     ·simp only [upd, ↓reduceIte]
      rw [QP (by omega)]
   ·rw [hI]
    exact ⟨0, _, by omega, Nat.zero_le _, rfl, t0, t3, rfl, rfl, rfl⟩
  ·have hjl : j = b.length := by omega
   rw [hjl, List.drop_length] at hr2
   repeat (first | (((with_reducible refine Qa fun K E hK hE => ?_)); simp -implicitDefEqProofs only [Qe, Qf, OpW, aop, AS.ev, ↓reduceIte, aBin, aLen, goInt, un23, t0, t3, hlt, QL, seval]) | (with_reducible (first | refine Qd fun K hK => ?_ | refine Qj ?_ | refine QC ?_ | refine Qb ?_ | refine Qw ?_ | refine Qy ?_)) | ((with_reducible refine hK _ ?_); clear hK) | (clear hK; (with_reducible refine hK _ ?_); clear hK) | (refine Qg rfl ?_; simp only [↓reduceIte, QpQ]))
   simp only [QD, Ql, Qr, upd, ↓reduceIte, QpS, QpW]; first | refine Qc (htake _ _) (.keep (.v _)) ⟨by rw [hr2]; rfl, rfl⟩ | refine Qc List.take_length (.keep (.v _)) ⟨by rw [hr2]; rfl, rfl⟩
 ·rw [hI]
  exact ⟨0, [], by omega, Nat.zero_le _, rfl, rfl, rfl, by simp⟩
theorem QaY (b : List (Int × T)) (hb : b.length ≤ 1000000) (hn : ∀ x ∈ b, x.2.nds ≤ 1000000) (ho : ∀ x ∈ b, i64 x.1 ∧ x.2.ok) : Pure Tryz.prog 14 [.sl 5 (bavs b) none] (.b (rightS b)) := by
 intro h
 have ca := QfM b hb hn
 refine Qh Tryz.func14 rfl Tryz.call14 Tryz.ntmps14 (congrArg Array.toList Tryz.results14) (by simp) ?_
 repeat (first | (((with_reducible refine Qa fun K E hK hE => ?_)); simp -implicitDefEqProofs only [Qe, Qf, OpW, aop, AS.ev, Nat.reduceLT]) | (with_reducible (first | refine Qd fun K hK => ?_ | refine Qi ?_)) | ((with_reducible refine hK _ ?_); clear hK))
 obtain ⟨I, hI⟩ : ∃ I : Nat → AS → Prop, I = fun m' s => ∃ (j : Nat) (L : AH), m' = b.length - j ∧ j ≤ b.length ∧ ascF none b = ascF (QcA b j) (b.drop j) ∧ s.tm 0 = .sl 5 (bavs b) none ∧ s.tm 3 = .i j ∧ s.h = h ++ L := ⟨_, rfl⟩; refine QI I ?_ (m := b.length) ?_
 ·intro m' s hs; rw [hI] at hs; obtain ⟨tm, hp⟩ := s; dsimp only at hs; obtain ⟨j, L, rfl, hj, hr, t0, t3, rfl⟩ := hs
  by_cases hlt : j < b.length
  ·rw [List.drop_eq_getElem_cons hlt] at hr
   have hbj := ho b[j] (List.getElem_mem hlt)
   have hnn : b[j].2.nds ≤ 1000000 := hn b[j] (List.getElem_mem hlt)
   have c1 : Pure Tryz.prog 42 [(b[j].2).av] (.b b[j].2.runOk) := QaV b[j].2 hnn hbj.2
   rw [T.Qo7] at c1
   have hpv : QcA b (j + 1) = some b[j].1 := by simp only [QcA]; rw [List.getD_eq_getElem?_getD, List.getElem?_eq_getElem hlt]; rfl
   by_cases k1 : b[j].1 < 0
   ·have e : ascF none b = false := by rw [hr]; simp [ascF, k1]
    repeat (first | (((with_reducible refine Qa fun K E hK hE => ?_)); simp -implicitDefEqProofs only [Qe, Qf, OpW, aop, AS.ev, ↓reduceIte, aBin, aLen, goInt, un23, t0, t3, hlt, QL, seval]) | (with_reducible (first | refine Qd fun K hK => ?_ | refine Qi ?_ | refine Qn ?_ | refine Qb ?_)) | ((with_reducible refine hK _ ?_); clear hK) | (refine Qg rfl ?_; simp only [↓reduceIte]))
    first | refine Qu (id := 4) [(0, 0), (1, 0), (2, 0), (3, 0), (4, 0), (5, 0), (6, 0), (7, 0), (8, 0), (9, 0), (10, 0), (11, 0), (12, 0), (13, 0), (14, 0), (15, 0), (16, 0), (17, 0), (18, 0), (19, 0), (20, 0), (21, 0), (22, 0), (23, 0), (24, 0), (25, 0), (26, 0), (27, 0), (28, 0), (29, 0), (30, 0), (31, 0), (32, 0), (33, 0), (34, 0), (35, 0), (36, 0), (37, 0), (38, 1), (39, 0), (40, 0)] mixed (by kernel_rfl) fun K hK => ?_ | refine QG (id := 4) [(0, 0), (1, 0), (2, 0), (3, 0), (4, 0), (5, 0), (6, 0), (7, 0), (8, 0), (9, 0), (10, 0), (11, 0), (12, 0), (13, 0), (14, 0), (15, 0), (16, 0), (17, 0), (18, 0), (19, 0), (20, 0), (21, 0), (22, 0), (23, 0), (24, 0), (25, 0), (26, 0), (27, 0), (28, 0), (29, 0), (30, 0), (31, 0), (32, 0), (33, 0), (34, 0), (35, 0), (36, 0), (37, 0), (38, 1), (39, 0), (40, 0)] mixed (by kernel_rfl) fun K hK => ?_
    (try simp only [QpV]); refine QQ 8 (fun K1 hK1 => ?_); simp -implicitDefEqProofs only [Qe, Qf, aop, undef, AS.ev, ↓reduceIte, Qm, QA, QB, Qt, aBin, ti3, ei23, Xx, t0, t3, hlt, QL, QY hlt, QN, k1, seval]; refine hK1 _ ?_; clear hK1
    (try simp only [QpV, Qp3]); refine QQ 8 (fun K1 hK1 => ?_); simp -implicitDefEqProofs only [Qe, Qf, aop, undef, AS.ev, ↓reduceIte, seval]; refine hK1 _ ?_; clear hK1
    (try simp only [QpV, Qp3]); refine QQ 8 (fun K1 hK1 => ?_); simp -implicitDefEqProofs only [Qe, Qf, undef, ↓reduceIte, seval]; refine hK1 _ ?_; clear hK1
    (try simp only [QpV, Qp3]); refine QQ 8 (fun K1 hK1 => ?_); simp -implicitDefEqProofs only [Qe, Qf, aop, undef, AS.ev, ↓reduceIte, seval]; refine hK1 _ ?_; clear hK1
    (try simp only [QpV, Qp3])
    simp -implicitDefEqProofs only [Qe, Qf, aop, undef, AS.ev, ↓reduceIte, seval]
    repeat (first | (((with_reducible refine Qa fun K E hK hE => ?_)); simp -implicitDefEqProofs only [Q4, Q2, Qf, OpW, aop, AS.ev, Q6, Xq, Nat.reduceLT]) | (with_reducible (first | refine Qj ?_ | refine Qb ?_ | refine Qq ?_ | refine Qs ?_)) | ((with_reducible refine hK _ ?_); clear hK) | (refine Qg rfl ?_; simp only [↓reduceIte]))
    simp only [QD, Ql, Qr, upd, ↓reduceIte, QpS, QpW]; first | refine Qc (htake _ _) (.keep (.v _)) ⟨by rw [rightS, e]; rfl, rfl⟩ | refine Qc List.take_length (.keep (.v _)) ⟨by rw [rightS, e]; rfl, rfl⟩
   by_cases k2 : b[j].1 > 1048576
   ·have e : ascF none b = false := by rw [hr]; simp [ascF, k2]
    repeat (first | (((with_reducible refine Qa fun K E hK hE => ?_)); simp -implicitDefEqProofs only [Qe, Qf, OpW, aop, AS.ev, ↓reduceIte, aBin, aLen, goInt, un23, t0, t3, hlt, QL, seval]) | (with_reducible (first | refine Qd fun K hK => ?_ | refine Qi ?_ | refine Qn ?_ | refine Qb ?_)) | ((with_reducible refine hK _ ?_); clear hK) | (refine Qg rfl ?_; simp only [↓reduceIte]))
    first | refine Qu (id := 4) [(0, 0), (1, 0), (2, 0), (3, 0), (4, 0), (5, 0), (6, 0), (7, 0), (8, 0), (9, 0), (10, 0), (11, 0), (12, 0), (13, 0), (14, 0), (15, 0), (16, 0), (17, 0), (18, 0), (19, 0), (20, 0), (21, 0), (22, 0), (23, 0), (24, 0), (25, 0), (26, 0), (27, 0), (28, 0), (29, 0), (30, 0), (31, 0), (32, 0), (33, 0), (34, 0), (35, 0), (36, 0), (37, 0), (38, 1), (39, 0), (40, 0)] mixed (by kernel_rfl) fun K hK => ?_ | refine QG (id := 4) [(0, 0), (1, 0), (2, 0), (3, 0), (4, 0), (5, 0), (6, 0), (7, 0), (8, 0), (9, 0), (10, 0), (11, 0), (12, 0), (13, 0), (14, 0), (15, 0), (16, 0), (17, 0), (18, 0), (19, 0), (20, 0), (21, 0), (22, 0), (23, 0), (24, 0), (25, 0), (26, 0), (27, 0), (28, 0), (29, 0), (30, 0), (31, 0), (32, 0), (33, 0), (34, 0), (35, 0), (36, 0), (37, 0), (38, 1), (39, 0), (40, 0)] mixed (by kernel_rfl) fun K hK => ?_
    (try simp only [QpV]); refine QQ 8 (fun K1 hK1 => ?_); simp -implicitDefEqProofs only [Qe, Qf, aop, AS.ev, ↓reduceIte, Qm, QA, QB, Qt, aBin, ti3, ei23, Xx, t0, t3, hlt, QL, QY hlt, QN, k1, seval]; refine hK1 _ ?_; clear hK1
    (try simp only [QpV, Qp3]); refine QQ 8 (fun K1 hK1 => ?_); simp -implicitDefEqProofs only [Qe, Qf, aop, undef, AS.ev, ↓reduceIte, Qm, QA, QB, Qt, aBin, ti3, ei23, Xx, t3, hlt, QL, QY hlt, QN, k2, seval]; refine hK1 _ ?_; clear hK1
    (try simp only [QpV, Qp3]); refine QQ 8 (fun K1 hK1 => ?_); simp -implicitDefEqProofs only [Qe, Qf, undef, ↓reduceIte, seval]; refine hK1 _ ?_; clear hK1
    (try simp only [QpV, Qp3]); refine QQ 8 (fun K1 hK1 => ?_); simp -implicitDefEqProofs only [Qe, Qf, aop, undef, AS.ev, ↓reduceIte, seval]; refine hK1 _ ?_; clear hK1
    (try simp only [QpV, Qp3])
    simp -implicitDefEqProofs only [Qe, Qf, aop, undef, AS.ev, ↓reduceIte, seval]
    repeat (first | (((with_reducible refine Qa fun K E hK hE => ?_)); simp -implicitDefEqProofs only [Q4, Q2, Qf, OpW, aop, AS.ev, Q6, Xq, Nat.reduceLT]) | (with_reducible (first | refine Qj ?_ | refine Qb ?_ | refine Qq ?_ | refine Qs ?_)) | ((with_reducible refine hK _ ?_); clear hK) | (refine Qg rfl ?_; simp only [↓reduceIte]))
    simp only [QD, Ql, Qr, upd, ↓reduceIte, QpS, QpW]; first | refine Qc (htake _ _) (.keep (.v _)) ⟨by rw [rightS, e]; rfl, rfl⟩ | refine Qc List.take_length (.keep (.v _)) ⟨by rw [rightS, e]; rfl, rfl⟩
   by_cases hj0 : j = 0
   ·have hjz : ¬ ((j : Int) > 0) := by omega
    have hprev : QcA b j = none := by rw [hj0]; rfl
    rw [hprev] at hr
    cases hrt : b[j].2.runOk with
    | false =>
     rw [hrt] at c1
     have e : ascF none b = false := by rw [hr]; simp [ascF, hrt]
     repeat (first | (((with_reducible refine Qa fun K E hK hE => ?_)); simp -implicitDefEqProofs only [Qe, Qf, OpW, aop, AS.ev, ↓reduceIte, aBin, aLen, goInt, un23, t0, t3, hlt, QL, seval]) | (with_reducible (first | refine Qd fun K hK => ?_ | refine Qi ?_ | refine Qn ?_ | refine Qb ?_)) | ((with_reducible refine hK _ ?_); clear hK) | (refine Qg rfl ?_; simp only [↓reduceIte]))
     first | refine Qu (id := 4) [(0, 0), (1, 0), (2, 0), (3, 0), (4, 0), (5, 0), (6, 0), (7, 0), (8, 0), (9, 0), (10, 0), (11, 0), (12, 0), (13, 0), (14, 0), (15, 0), (16, 0), (17, 0), (18, 0), (19, 0), (20, 0), (21, 0), (22, 0), (23, 0), (24, 0), (25, 0), (26, 0), (27, 0), (28, 0), (29, 0), (30, 0), (31, 0), (32, 0), (33, 0), (34, 0), (35, 0), (36, 0), (37, 0), (38, 1), (39, 0), (40, 0)] mixed (by kernel_rfl) fun K hK => ?_ | refine QG (id := 4) [(0, 0), (1, 0), (2, 0), (3, 0), (4, 0), (5, 0), (6, 0), (7, 0), (8, 0), (9, 0), (10, 0), (11, 0), (12, 0), (13, 0), (14, 0), (15, 0), (16, 0), (17, 0), (18, 0), (19, 0), (20, 0), (21, 0), (22, 0), (23, 0), (24, 0), (25, 0), (26, 0), (27, 0), (28, 0), (29, 0), (30, 0), (31, 0), (32, 0), (33, 0), (34, 0), (35, 0), (36, 0), (37, 0), (38, 1), (39, 0), (40, 0)] mixed (by kernel_rfl) fun K hK => ?_
     (try simp only [QpV]); refine QQ 8 (fun K1 hK1 => ?_); simp -implicitDefEqProofs only [Qe, Qf, aop, AS.ev, ↓reduceIte, Qm, QA, QB, Qt, aBin, ti3, ei23, Xx, t0, t3, hlt, QL, QY hlt, QN, k1, seval]; refine hK1 _ ?_; clear hK1
     (try simp only [QpV, Qp3]); refine QQ 8 (fun K1 hK1 => ?_); simp -implicitDefEqProofs only [Qe, Qf, aop, AS.ev, ↓reduceIte, Qm, QA, QB, Qt, aBin, ti3, ei23, Xx, t3, hlt, QL, QY hlt, QN, k2, seval]; refine hK1 _ ?_; clear hK1
     (try simp only [QpV, Qp3]); refine QQ 8 (fun K1 hK1 => ?_); simp -implicitDefEqProofs only [Qe, Qf, aop, undef, AS.ev, ↓reduceIte, aBin, hjz, seval]; refine hK1 _ ?_; clear hK1
     (try simp only [QpV, Qp3]); refine QQ 8 (fun K1 hK1 => ?_); simp -implicitDefEqProofs only [Qe, Qf, aop, undef, AS.ev, ↓reduceIte, seval]; refine hK1 _ ?_; clear hK1
     (try simp only [QpV, Qp3])
     simp -implicitDefEqProofs only [Qe, Qf, aop, AS.ev, ↓reduceIte, Qm, QA, QB, Qt, ei23, ti41, Zc, t0, t3, hlt, QL, QY hlt, QN, Xh, seval]
     repeat (first | ((first | (with_reducible (first | refine Qa fun K E hK hE => ?_ | refine Qz c1 ?_))); simp -implicitDefEqProofs only [Qe, Qf, OpW, aop, AS.ev, ↓reduceIte, seval]) | (with_reducible (first | refine Qj ?_ | refine Qb ?_ | refine Qq ?_ | refine Qs ?_)) | ((with_reducible refine hK _ ?_); clear hK) | (refine Qg rfl ?_; simp only [↓reduceIte]))
     simp only [QD, Ql, Qr, upd, ↓reduceIte, QpS, QpW]; first | refine Qc (htake _ _) (.keep (.v _)) ⟨by rw [rightS, e]; rfl, rfl⟩ | refine Qc List.take_length (.keep (.v _)) ⟨by rw [rightS, e]; rfl, rfl⟩
    | true =>
     rw [hrt] at c1
     repeat (first | (((with_reducible refine Qa fun K E hK hE => ?_)); simp -implicitDefEqProofs only [Qe, Qf, OpW, aop, AS.ev, ↓reduceIte, aBin, aLen, goInt, un23, t0, t3, hlt, QL, seval]) | (with_reducible (first | refine Qd fun K hK => ?_ | refine Qi ?_ | refine Qn ?_ | refine Qb ?_)) | ((with_reducible refine hK _ ?_); clear hK) | (refine Qg rfl ?_; simp only [↓reduceIte]))
     first | refine Qu (id := 4) [(0, 0), (1, 0), (2, 0), (3, 0), (4, 0), (5, 0), (6, 0), (7, 0), (8, 0), (9, 0), (10, 0), (11, 0), (12, 0), (13, 0), (14, 0), (15, 0), (16, 0), (17, 0), (18, 0), (19, 0), (20, 0), (21, 0), (22, 0), (23, 0), (24, 0), (25, 0), (26, 0), (27, 0), (28, 0), (29, 0), (30, 0), (31, 0), (32, 0), (33, 0), (34, 0), (35, 0), (36, 0), (37, 0), (38, 1), (39, 0), (40, 0)] mixed (by kernel_rfl) fun K hK => ?_ | refine QG (id := 4) [(0, 0), (1, 0), (2, 0), (3, 0), (4, 0), (5, 0), (6, 0), (7, 0), (8, 0), (9, 0), (10, 0), (11, 0), (12, 0), (13, 0), (14, 0), (15, 0), (16, 0), (17, 0), (18, 0), (19, 0), (20, 0), (21, 0), (22, 0), (23, 0), (24, 0), (25, 0), (26, 0), (27, 0), (28, 0), (29, 0), (30, 0), (31, 0), (32, 0), (33, 0), (34, 0), (35, 0), (36, 0), (37, 0), (38, 1), (39, 0), (40, 0)] mixed (by kernel_rfl) fun K hK => ?_
     (try simp only [QpV]); refine QQ 8 (fun K1 hK1 => ?_); simp -implicitDefEqProofs only [Qe, Qf, aop, AS.ev, ↓reduceIte, Qm, QA, QB, Qt, aBin, ti3, ei23, Xx, t0, t3, hlt, QL, QY hlt, QN, k1, seval]; refine hK1 _ ?_; clear hK1
     (try simp only [QpV, Qp3]); refine QQ 8 (fun K1 hK1 => ?_); simp -implicitDefEqProofs only [Qe, Qf, aop, AS.ev, ↓reduceIte, Qm, QA, QB, Qt, aBin, ti3, ei23, Xx, t3, hlt, QL, QY hlt, QN, k2, seval]; refine hK1 _ ?_; clear hK1
     (try simp only [QpV, Qp3]); refine QQ 8 (fun K1 hK1 => ?_); simp -implicitDefEqProofs only [Qe, Qf, aop, undef, AS.ev, ↓reduceIte, aBin, hjz, seval]; refine hK1 _ ?_; clear hK1
     (try simp only [QpV, Qp3]); refine QQ 8 (fun K1 hK1 => ?_); simp -implicitDefEqProofs only [Qe, Qf, aop, undef, AS.ev, ↓reduceIte, seval]; refine hK1 _ ?_; clear hK1
     (try simp only [QpV, Qp3])
     simp -implicitDefEqProofs only [Qe, Qf, aop, AS.ev, ↓reduceIte, Qm, QA, QB, Qt, ei23, ti41, Zc, t0, t3, hlt, QL, QY hlt, QN, Xh, seval]
     repeat (first | ((first | (with_reducible (first | refine Qk fun K E hK hE => ?_ | refine Qz c1 ?_))); simp -implicitDefEqProofs only [Qe, Qf, OpW, aop, AS.ev, ↓reduceIte, aBin, t3, seval]) | (with_reducible (first | refine Qn ?_ | refine Qb ?_ | refine Qo ?_)) | ((with_reducible refine hK _ ?_); clear hK) | (refine Qg rfl ?_; simp only [↓reduceIte, QpQ]))
     refine QV.mk (m' := b.length - (j + 1)) (by omega) ?_
     rw [hI]
     refine ⟨j + 1, L, rfl, hlt, ?_, t0, ?_, rfl⟩
     ·rw [hr, hpv]
      simp [ascF, k1, k2, hrt]
     ·simp only [upd, ↓reduceIte]
      rw [QP (by omega)]
   ·have hjz : (j : Int) > 0 := by omega
    have hw1 : IntKind.i64.wrap ((j : Int) - 1) = ((j - 1 : Nat) : Int) := by rw [Xp (by omega)]; omega
    have hlt1 : j - 1 < b.length := by omega
    have hprev : QcA b j = some (b[j - 1]).1 := by
     obtain ⟨i, rfl⟩ : ∃ i, j = i + 1 := ⟨j - 1, by omega⟩
     simp only [QcA, Nat.add_sub_cancel]; rw [List.getD_eq_getElem?_getD, List.getElem?_eq_getElem (by omega)]; rfl
    rw [hprev] at hr
    by_cases k3 : b[j].1 ≤ (b[j - 1]).1
    ·have e : ascF none b = false := by rw [hr]; simp [ascF, k3]
     repeat (first | (((with_reducible refine Qa fun K E hK hE => ?_)); simp -implicitDefEqProofs only [Qe, Qf, OpW, aop, AS.ev, ↓reduceIte, aBin, aLen, goInt, un23, t0, t3, hlt, QL, seval]) | (with_reducible (first | refine Qd fun K hK => ?_ | refine Qi ?_ | refine Qn ?_ | refine Qb ?_)) | ((with_reducible refine hK _ ?_); clear hK) | (refine Qg rfl ?_; simp only [↓reduceIte]))
     first | refine Qu (id := 4) [(0, 0), (1, 0), (2, 0), (3, 0), (4, 0), (5, 0), (6, 0), (7, 0), (8, 0), (9, 0), (10, 0), (11, 0), (12, 0), (13, 0), (14, 0), (15, 0), (16, 0), (17, 0), (18, 0), (19, 0), (20, 0), (21, 0), (22, 0), (23, 0), (24, 0), (25, 0), (26, 0), (27, 0), (28, 0), (29, 0), (30, 0), (31, 0), (32, 0), (33, 0), (34, 0), (35, 0), (36, 0), (37, 0), (38, 1), (39, 0), (40, 0)] mixed (by kernel_rfl) fun K hK => ?_ | refine QG (id := 4) [(0, 0), (1, 0), (2, 0), (3, 0), (4, 0), (5, 0), (6, 0), (7, 0), (8, 0), (9, 0), (10, 0), (11, 0), (12, 0), (13, 0), (14, 0), (15, 0), (16, 0), (17, 0), (18, 0), (19, 0), (20, 0), (21, 0), (22, 0), (23, 0), (24, 0), (25, 0), (26, 0), (27, 0), (28, 0), (29, 0), (30, 0), (31, 0), (32, 0), (33, 0), (34, 0), (35, 0), (36, 0), (37, 0), (38, 1), (39, 0), (40, 0)] mixed (by kernel_rfl) fun K hK => ?_
     (try simp only [QpV]); refine QQ 8 (fun K1 hK1 => ?_); simp -implicitDefEqProofs only [Qe, Qf, aop, AS.ev, ↓reduceIte, Qm, QA, QB, Qt, aBin, ti3, ei23, Xx, t0, t3, hlt, QL, QY hlt, QN, k1, seval]; refine hK1 _ ?_; clear hK1
     (try simp only [QpV, Qp3]); refine QQ 8 (fun K1 hK1 => ?_); simp -implicitDefEqProofs only [Qe, Qf, aop, AS.ev, ↓reduceIte, Qm, QA, QB, Qt, aBin, ti3, ei23, Xx, t3, hlt, QL, QY hlt, QN, k2, seval]; refine hK1 _ ?_; clear hK1
     (try simp only [QpV, Qp3]); refine QQ 8 (fun K1 hK1 => ?_); simp -implicitDefEqProofs only [Qe, Qf, aop, AS.ev, ↓reduceIte, Qm, QA, QB, Qt, aBin, ti3, ei23, Xx, t0, t3, hlt, QL, QY hlt, QN, hjz, seval]; refine hK1 _ ?_; clear hK1
     (try simp only [QpV, Qp3]); refine QQ 8 (fun K1 hK1 => ?_); simp -implicitDefEqProofs only [Qe, Qf, aop, AS.ev, ↓reduceIte, Qm, QA, QB, Qt, aBin, ti3, ei23, Xx, t3, QL, QN, hw1, hlt1, QY hlt1, k3, seval]; refine hK1 _ ?_; clear hK1
     (try simp only [QpV, Qp3])
     simp -implicitDefEqProofs only [Qe, Qf, aop, undef, AS.ev, ↓reduceIte, seval]
     repeat (first | (((with_reducible refine Qa fun K E hK hE => ?_)); simp -implicitDefEqProofs only [Q4, Q2, Qf, OpW, aop, AS.ev, Q6, Xq, Nat.reduceLT]) | (with_reducible (first | refine Qj ?_ | refine Qb ?_ | refine Qq ?_ | refine Qs ?_)) | ((with_reducible refine hK _ ?_); clear hK) | (refine Qg rfl ?_; simp only [↓reduceIte]))
     simp only [QD, Ql, Qr, upd, ↓reduceIte, QpS, QpW]; first | refine Qc (htake _ _) (.keep (.v _)) ⟨by rw [rightS, e]; rfl, rfl⟩ | refine Qc List.take_length (.keep (.v _)) ⟨by rw [rightS, e]; rfl, rfl⟩
    cases hrt : b[j].2.runOk with
    | false =>
     rw [hrt] at c1
     have e : ascF none b = false := by rw [hr]; simp [ascF, hrt]
     repeat (first | (((with_reducible refine Qa fun K E hK hE => ?_)); simp -implicitDefEqProofs only [Qe, Qf, OpW, aop, AS.ev, ↓reduceIte, aBin, aLen, goInt, un23, t0, t3, hlt, QL, seval]) | (with_reducible (first | refine Qd fun K hK => ?_ | refine Qi ?_ | refine Qn ?_ | refine Qb ?_)) | ((with_reducible refine hK _ ?_); clear hK) | (refine Qg rfl ?_; simp only [↓reduceIte]))
     first | refine Qu (id := 4) [(0, 0), (1, 0), (2, 0), (3, 0), (4, 0), (5, 0), (6, 0), (7, 0), (8, 0), (9, 0), (10, 0), (11, 0), (12, 0), (13, 0), (14, 0), (15, 0), (16, 0), (17, 0), (18, 0), (19, 0), (20, 0), (21, 0), (22, 0), (23, 0), (24, 0), (25, 0), (26, 0), (27, 0), (28, 0), (29, 0), (30, 0), (31, 0), (32, 0), (33, 0), (34, 0), (35, 0), (36, 0), (37, 0), (38, 1), (39, 0), (40, 0)] mixed (by kernel_rfl) fun K hK => ?_ | refine QG (id := 4) [(0, 0), (1, 0), (2, 0), (3, 0), (4, 0), (5, 0), (6, 0), (7, 0), (8, 0), (9, 0), (10, 0), (11, 0), (12, 0), (13, 0), (14, 0), (15, 0), (16, 0), (17, 0), (18, 0), (19, 0), (20, 0), (21, 0), (22, 0), (23, 0), (24, 0), (25, 0), (26, 0), (27, 0), (28, 0), (29, 0), (30, 0), (31, 0), (32, 0), (33, 0), (34, 0), (35, 0), (36, 0), (37, 0), (38, 1), (39, 0), (40, 0)] mixed (by kernel_rfl) fun K hK => ?_
     (try simp only [QpV]); refine QQ 8 (fun K1 hK1 => ?_); simp -implicitDefEqProofs only [Qe, Qf, aop, AS.ev, ↓reduceIte, Qm, QA, QB, Qt, aBin, ti3, ei23, Xx, t0, t3, hlt, QL, QY hlt, QN, k1, seval]; refine hK1 _ ?_; clear hK1
     (try simp only [QpV, Qp3]); refine QQ 8 (fun K1 hK1 => ?_); simp -implicitDefEqProofs only [Qe, Qf, aop, AS.ev, ↓reduceIte, Qm, QA, QB, Qt, aBin, ti3, ei23, Xx, t3, hlt, QL, QY hlt, QN, k2, seval]; refine hK1 _ ?_; clear hK1
     (try simp only [QpV, Qp3]); refine QQ 8 (fun K1 hK1 => ?_); simp -implicitDefEqProofs only [Qe, Qf, aop, AS.ev, ↓reduceIte, Qm, QA, QB, Qt, aBin, ti3, ei23, Xx, t0, t3, hlt, QL, QY hlt, QN, hjz, seval]; refine hK1 _ ?_; clear hK1
     (try simp only [QpV, Qp3]); refine QQ 8 (fun K1 hK1 => ?_); simp -implicitDefEqProofs only [Qe, Qf, aop, AS.ev, ↓reduceIte, Qm, QA, QB, Qt, aBin, ti3, ei23, Xx, t3, QL, QN, hw1, hlt1, QY hlt1, k3, seval]; refine hK1 _ ?_; clear hK1
     (try simp only [QpV, Qp3])
     simp -implicitDefEqProofs only [Qe, Qf, aop, AS.ev, ↓reduceIte, Qm, QA, QB, Qt, ei23, ti41, Zc, t0, t3, hlt, QL, QY hlt, QN, Xh, seval]
     repeat (first | ((first | (with_reducible (first | refine Qa fun K E hK hE => ?_ | refine Qz c1 ?_))); simp -implicitDefEqProofs only [Qe, Qf, OpW, aop, AS.ev, ↓reduceIte, seval]) | (with_reducible (first | refine Qj ?_ | refine Qb ?_ | refine Qq ?_ | refine Qs ?_)) | ((with_reducible refine hK _ ?_); clear hK) | (refine Qg rfl ?_; simp only [↓reduceIte]))
     simp only [QD, Ql, Qr, upd, ↓reduceIte, QpS, QpW]; first | refine Qc (htake _ _) (.keep (.v _)) ⟨by rw [rightS, e]; rfl, rfl⟩ | refine Qc List.take_length (.keep (.v _)) ⟨by rw [rightS, e]; rfl, rfl⟩
    | true =>
     rw [hrt] at c1
     repeat (first | (((with_reducible refine Qa fun K E hK hE => ?_)); simp -implicitDefEqProofs only [Qe, Qf, OpW, aop, AS.ev, ↓reduceIte, aBin, aLen, goInt, un23, t0, t3, hlt, QL, seval]) | (with_reducible (first | refine Qd fun K hK => ?_ | refine Qi ?_ | refine Qn ?_ | refine Qb ?_)) | ((with_reducible refine hK _ ?_); clear hK) | (refine Qg rfl ?_; simp only [↓reduceIte]))
     first | refine Qu (id := 4) [(0, 0), (1, 0), (2, 0), (3, 0), (4, 0), (5, 0), (6, 0), (7, 0), (8, 0), (9, 0), (10, 0), (11, 0), (12, 0), (13, 0), (14, 0), (15, 0), (16, 0), (17, 0), (18, 0), (19, 0), (20, 0), (21, 0), (22, 0), (23, 0), (24, 0), (25, 0), (26, 0), (27, 0), (28, 0), (29, 0), (30, 0), (31, 0), (32, 0), (33, 0), (34, 0), (35, 0), (36, 0), (37, 0), (38, 1), (39, 0), (40, 0)] mixed (by kernel_rfl) fun K hK => ?_ | refine QG (id := 4) [(0, 0), (1, 0), (2, 0), (3, 0), (4, 0), (5, 0), (6, 0), (7, 0), (8, 0), (9, 0), (10, 0), (11, 0), (12, 0), (13, 0), (14, 0), (15, 0), (16, 0), (17, 0), (18, 0), (19, 0), (20, 0), (21, 0), (22, 0), (23, 0), (24, 0), (25, 0), (26, 0), (27, 0), (28, 0), (29, 0), (30, 0), (31, 0), (32, 0), (33, 0), (34, 0), (35, 0), (36, 0), (37, 0), (38, 1), (39, 0), (40, 0)] mixed (by kernel_rfl) fun K hK => ?_
     (try simp only [QpV]); refine QQ 8 (fun K1 hK1 => ?_); simp -implicitDefEqProofs only [Qe, Qf, aop, AS.ev, ↓reduceIte, Qm, QA, QB, Qt, aBin, ti3, ei23, Xx, t0, t3, hlt, QL, QY hlt, QN, k1, seval]; refine hK1 _ ?_; clear hK1
     (try simp only [QpV, Qp3]); refine QQ 8 (fun K1 hK1 => ?_); simp -implicitDefEqProofs only [Qe, Qf, aop, AS.ev, ↓reduceIte, Qm, QA, QB, Qt, aBin, ti3, ei23, Xx, t3, hlt, QL, QY hlt, QN, k2, seval]; refine hK1 _ ?_; clear hK1
     (try simp only [QpV, Qp3]); refine QQ 8 (fun K1 hK1 => ?_); simp -implicitDefEqProofs only [Qe, Qf, aop, AS.ev, ↓reduceIte, Qm, QA, QB, Qt, aBin, ti3, ei23, Xx, t0, t3, hlt, QL, QY hlt, QN, hjz, seval]; refine hK1 _ ?_; clear hK1
     (try simp only [QpV, Qp3]); refine QQ 8 (fun K1 hK1 => ?_); simp -implicitDefEqProofs only [Qe, Qf, aop, AS.ev, ↓reduceIte, Qm, QA, QB, Qt, aBin, ti3, ei23, Xx, t3, QL, QN, hw1, hlt1, QY hlt1, k3, seval]; refine hK1 _ ?_; clear hK1
     (try simp only [QpV, Qp3])
     simp -implicitDefEqProofs only [Qe, Qf, aop, AS.ev, ↓reduceIte, Qm, QA, QB, Qt, ei23, ti41, Zc, t0, t3, hlt, QL, QY hlt, QN, Xh, seval]
     repeat (first | ((first | (with_reducible (first | refine Qk fun K E hK hE => ?_ | refine Qz c1 ?_))); simp -implicitDefEqProofs only [Qe, Qf, OpW, aop, AS.ev, ↓reduceIte, aBin, t3, seval]) | (with_reducible (first | refine Qn ?_ | refine Qb ?_ | refine Qo ?_)) | ((with_reducible refine hK _ ?_); clear hK) | (refine Qg rfl ?_; simp only [↓reduceIte, QpQ]))
     refine QV.mk (m' := b.length - (j + 1)) (by omega) ?_
     rw [hI]
     refine ⟨j + 1, L, rfl, hlt, ?_, t0, ?_, rfl⟩
     ·rw [hr, hpv]
      simp [ascF, k1, k2, hrt, k3]
     ·simp only [upd, ↓reduceIte]
      rw [QP (by omega)]
  ·have hjl : j = b.length := by omega
   have e : ascF none b = true := by rw [hr, hjl, List.drop_length]; rfl
   repeat (first | ((first | (with_reducible (first | refine Qa fun K E hK hE => ?_ | refine Qp ca ?_))); simp -implicitDefEqProofs only [Qe, Qf, OpW, QK, aop, AS.ev, ↓reduceIte, aBin, aLen, goInt, un23, t0, t3, hlt, QL, seval]) | (with_reducible (first | refine Qd fun K hK => ?_ | refine Qj ?_ | refine QC ?_ | refine Qb ?_ | refine Qw ?_ | refine Qy ?_)) | ((with_reducible refine hK _ ?_); clear hK) | (clear hK; (with_reducible refine hK _ ?_); clear hK) | (refine Qg rfl ?_; simp only [↓reduceIte, QpQ]))
   simp only [QD, Ql, Qr, upd, ↓reduceIte, QpS, QpW]; first | refine Qc (htake _ _) (.keep (.v _)) ⟨by rw [rightS, e]; rfl, rfl⟩ | refine Qc List.take_length (.keep (.v _)) ⟨by rw [rightS, e]; rfl, rfl⟩
 ·rw [hI]
  exact ⟨0, [], by omega, Nat.zero_le _, rfl, rfl, rfl, by simp⟩
theorem QlG (l : List T) : XT (.mk 2 0 { data := #[] } l) = ded [] (varss l) := by rw [Qds]; rfl
def ansM (n : Int) (c : Ct) (p : List Int) : Ct := ⟨rens (toM n p) c.vals, YA cmpG (c.store.map (G.ren (toM n p)))⟩
theorem QlJ {n : Int} {L σ p : List Int} (hp : p.Perm L) (h : ∀ v, toG n L σ v = toF n p v) (v : Int) : toMG n L σ v = toM n p v := by
 have e := h v
 rw [← Qlg, ← QiB] at e
 unfold toMG toM at e ⊢
 by_cases hv : v ∈ L
 ·rw [if_pos hv, if_pos (hp.mem_iff.2 hv)] at e ⊢
  simp only [Option.getD_some] at e
  rw [e]
 ·rw [if_neg hv, if_neg (fun q => hv (hp.mem_iff.1 q))]
theorem QdG {n : Int} {c : Ct} {L σ p : List Int} (hp : p.Perm L) (h : ∀ v, toG n L σ v = toF n p v) : ansG n c L σ = ansM n c p := by
 have e : toMG n L σ = toM n p := funext (QlJ hp h)
 rw [ansG, ansM, e]
def QiD (n : Int) (c : Ct) : List (List Int) → Ct
 | [] => ⟨[], []⟩
 | e :: E => Y2 cmpA (ansM n c e) (E.map (ansM n c))
theorem Qd7 {k : Nat} (hk : k ≤ 6) (σ : List Int) : σ ∈ XL 720 (nums k) ↔ σ.Perm (nums k) := by rw [Qdm hk, QaM]
theorem QeR {n : Int} {c : Ct} {L : List Int} {E : List (List Int)} (hn : L.Nodup) (h6 : L.length ≤ 6) (hE : ∀ p, p ∈ E ↔ p.Perm L) : cmpA (Yo n c L) (QiD n c E) = 0 := by
 have hm := Qd7 h6
 cases hP : XL 720 (nums L.length) with
 | nil => rw [hP] at hm; exact absurd ((hm (nums L.length)).2 (.refl _)) (by simp)
 | cons d D =>
  rw [hP] at hm
  cases E with
  | nil => exact absurd ((hE L).2 (.refl _)) (by simp)
  | cons e E =>
   have e1 : Yo n c L = Y2 cmpA (ansG n c L d) (D.map (ansG n c L)) := by rw [Yo, hP]
   rw [e1, QiD]
   refine Qdp ordA (fun y hy => ?_) fun y hy => ?_
   ·rw [← List.map_cons, List.mem_map] at hy
    obtain ⟨σ, h1, rfl⟩ := hy
    obtain ⟨p, h2, h3⟩ := Qis hn ((hm σ).1 h1)
    refine ⟨ansM n c p, ?_, ?_⟩
    ·rw [← List.map_cons]; exact List.mem_map.2 ⟨p, (hE p).2 h2, rfl⟩
    ·rw [QdG h2 h3, ordA.refl]; exact Int.le_refl 0
   ·rw [← List.map_cons, List.mem_map] at hy
    obtain ⟨p, h1, rfl⟩ := hy
    obtain ⟨σ, h2, h3⟩ := QlP hn ((hE p).1 h1)
    refine ⟨ansG n c L σ, ?_, ?_⟩
    ·rw [← List.map_cons]; exact List.mem_map.2 ⟨σ, (hm σ).2 h2, rfl⟩
    ·rw [QdG ((hE p).1 h1) h3, ordA.refl]; exact Int.le_refl 0
theorem Qfs {P : Program} {N : Nat} {code : Code} {Q : AExit → AS → Prop} {tm : Nat → AV} {h : AH} (d : Nat) {v w : AV} (hd : tm d = v) (hw : Wk v w) (H : Xz P N code Q ⟨upd tm d w, h⟩) : Xz P N code Q ⟨tm, h⟩ := by
 subst hd
 intro F n base c a hF hst hr R hR
 refine H F n base c a hF hst ⟨hr.h, hr.size, hr.above, hr.defers, hr.round, fun t => ?_⟩ R hR
 by_cases e : t = d
 ·subst e
  show Rel c (upd tm t w t) _
  rw [show upd tm t w t = w by simp [upd]]
  exact hw _ _ (hr.tm t)
 ·show Rel c (upd tm d w t) _
  rw [upd_ne _ _ e]
  exact hr.tm t
def pre (k : Nat) (l : List Int) (i : Nat) : List (List Int) := (List.range i).flatMap fun j => (QiM k (l.eraseIdx j)).map fun t => l.getD j 0 :: t
theorem Qnc {b : List (Int × T)} {l : List It} (H : SmallC b l) (h4 : ∀ x ∈ l, x.atom.ok) : ∀ g ∈ storeOf b l, g.ok := fun g hg => by
 have h1 := H.Qpi g hg
 obtain ⟨x, hx, rfl⟩ := List.mem_map.1 hg
 have := h4 x hx
 exact ⟨by show i64 0; unfold i64; omega, this.2.1, h1⟩
structure Cs where
 vars : Int
 b : List (Int × T)
 l : List It
 failed : Bool
def Cs.av (c : Cs) : AV := .agg [.i c.vars, .sl 5 (bavs c.b) none, .sl 3 (vs It.av c.l) none, .v (.bool c.failed)]
theorem Cs.cells (c : Cs) : c.av.cells = [.i c.vars, .sl 5 (bavs c.b) none, .sl 3 (vs It.av c.l) none, .v (.bool c.failed)] := rfl
theorem Cs.isAgg (c : Cs) : c.av.isAgg = true := rfl
structure Cs.ok (c : Cs) : Prop where
 v : i64 c.vars
 b : ∀ x ∈ c.b, i64 x.1 ∧ x.2.ok
 l : ∀ x ∈ c.l, x.atom.op = 0 ∧ x.atom.ok
def bigB (x : Int × T) : Bool := decide (weigh 64 [x.2] 40 < 0)
def bigI (x : It) : Bool := decide (Y6 [x.atom] 40 < 0)
def Cs.big (c : Cs) : Bool := decide (c.vars > 101) || (decide ((c.b.length : Int) > 20) || (decide ((c.l.length : Int) > 7) || (c.b.any bigB || c.l.any bigI)))
theorem Cs.small {c : Cs} (ho : c.ok) (h : c.big = false) : c.vars ≤ 101 ∧ SmallC c.b c.l := by
 simp only [Cs.big, Bool.or_eq_false_iff, decide_eq_false_iff_not, List.any_eq_false] at h
 obtain ⟨h1, h2, h3, h4, h5⟩ := h
 refine ⟨by omega, by omega, fun x hx => ?_, ho.b, by omega, fun x hx => ?_, fun x hx => (ho.l x hx).2.2.2⟩
 ·have := h4 x hx
  rw [bigB, decide_eq_true_eq] at this
  have := Qj5 this
  simp only [ndsL] at this; omega
 ·have := h5 x hx
  rw [bigI, decide_eq_true_eq] at this
  have := Qgp [x.atom] 40 (by omega)
  simp only [ndsG] at this; omega
theorem Qec (c : Cs) (ho : c.ok) : Pure Tryz.prog 9 [c.av] (.b c.big) := by
 intro h
 by_cases k1 : c.vars > 101
 ·have e : c.big = true := by rw [Cs.big, decide_eq_true k1]; rfl
  refine Qh Tryz.func9 rfl Tryz.call9 Tryz.ntmps9 (congrArg Array.toList Tryz.results9) (by simp) ?_
  repeat (first | (((with_reducible refine Qa fun K E hK hE => ?_)); simp -implicitDefEqProofs only [Qe, Qf, OpW, aop, undef, AS.ev, Qv, AV.QoY, ↓reduceIte, Qm, QA, QB, aBin, ti3, YJ, Cs.cells, k1, seval]) | (with_reducible (first | refine Qd fun K hK => ?_ | refine Qj ?_ | refine Qq ?_)) | ((with_reducible refine hK _ ?_); clear hK) | (refine Qg rfl ?_; simp only [↓reduceIte]))
  simp only [QD, Ql, Qr, upd, ↓reduceIte, QpS, QpW]; first | refine Qc (htake _ _) (.keep (.v _)) ⟨by rw [e], rfl⟩ | refine Qc List.take_length (.keep (.v _)) ⟨by rw [e], rfl⟩
 by_cases k2 : (c.b.length : Int) > 20
 ·have e : c.big = true := by rw [Cs.big, decide_eq_true k2, Bool.true_or, Bool.or_true]
  refine Qh Tryz.func9 rfl Tryz.call9 Tryz.ntmps9 (congrArg Array.toList Tryz.results9) (by simp) ?_
  repeat (first | (((with_reducible refine Qa fun K E hK hE => ?_)); simp -implicitDefEqProofs only [Qe, Qf, OpW, aop, undef, AS.ev, Qv, AV.QoY, ↓reduceIte, Qm, QA, QB, aBin, aLen, goInt, ti3, ti23, un23, YJ, YX, Cs.cells, QL, k1, k2, seval]) | (with_reducible (first | refine Qd fun K hK => ?_ | refine Qj ?_ | refine Qq ?_)) | ((with_reducible refine hK _ ?_); clear hK) | (refine Qg rfl ?_; simp only [↓reduceIte]))
  simp only [QD, Ql, Qr, upd, ↓reduceIte, QpS, QpW]; first | refine Qc (htake _ _) (.keep (.v _)) ⟨by rw [e], rfl⟩ | refine Qc List.take_length (.keep (.v _)) ⟨by rw [e], rfl⟩
 by_cases k3 : (c.l.length : Int) > 7
 ·have e : c.big = true := by rw [Cs.big, decide_eq_true k3, Bool.true_or, Bool.or_true, Bool.or_true]
  refine Qh Tryz.func9 rfl Tryz.call9 Tryz.ntmps9 (congrArg Array.toList Tryz.results9) (by simp) ?_
  repeat (first | (((with_reducible refine Qa fun K E hK hE => ?_)); simp -implicitDefEqProofs only [Qe, Qf, OpW, aop, undef, AS.ev, Qv, AV.QoY, ↓reduceIte, Qm, QA, QB, aBin, aLen, goInt, ti3, ti23, un23, ti24, un24, YJ, YX, QaS, Cs.cells, QR, QL, k1, k2, k3, seval]) | (with_reducible (first | refine Qd fun K hK => ?_ | refine Qj ?_ | refine Qq ?_)) | ((with_reducible refine hK _ ?_); clear hK) | (refine Qg rfl ?_; simp only [↓reduceIte]))
  simp only [QD, Ql, Qr, upd, ↓reduceIte, QpS, QpW]; first | refine Qc (htake _ _) (.keep (.v _)) ⟨by rw [e], rfl⟩ | refine Qc List.take_length (.keep (.v _)) ⟨by rw [e], rfl⟩
 have e : c.big = (c.b.any bigB || c.l.any bigI) := by rw [Cs.big, decide_eq_false k1, decide_eq_false k2, decide_eq_false k3]; rfl
 rw [e]
 refine Qh Tryz.func9 rfl Tryz.call9 Tryz.ntmps9 (congrArg Array.toList Tryz.results9) (by simp) ?_
 repeat (first | (((with_reducible refine Qa fun K E hK hE => ?_)); simp -implicitDefEqProofs only [Qe, Qf, OpW, aop, undef, AS.ev, Qv, AV.QoY, ↓reduceIte, Qm, QA, QB, aBin, aLen, goInt, ti3, ti23, un23, ti24, un24, YJ, YX, QaS, Cs.cells, QR, QL, k1, k2, k3, seval]) | (with_reducible (first | refine Qd fun K hK => ?_ | refine Qi ?_ | refine Qn ?_ | refine Qb ?_)) | ((with_reducible refine hK _ ?_); clear hK) | (refine Qg rfl ?_; simp only [↓reduceIte, QpQ]))
 obtain ⟨I, hI⟩ : ∃ I : Nat → AS → Prop, I = fun m' s => ∃ (k : Nat) (M : AH), m' = c.b.length - k ∧ k ≤ c.b.length ∧ (∀ x ∈ c.b.take k, bigB x = false) ∧ s.tm 1 = .ptr h.length 0 0 ∧ s.tm 3 = .i k ∧ s.h = h ++ ([.cells 26 4 [c.av]] ++ M) := ⟨_, rfl⟩; refine QI I ?_ (m := c.b.length) ?_
 ·intro m' s hs; rw [hI] at hs; obtain ⟨tm, hp⟩ := s; dsimp only at hs; obtain ⟨k, M, rfl, hk, hall, t1, t3, rfl⟩ := hs
  by_cases hlt : k < c.b.length
  ·have hx := List.getElem_mem hlt
   have cg := QiV [(c.b[k]).2] 40 (by simp only [oks]; exact ⟨(ho.b _ hx).2, trivial⟩) (by omega) (by omega)
   have eb : decide (weigh 64 [(c.b[k]).2] 40 < 0) = bigB c.b[k] := rfl
   rw [eb] at cg
   have ea : avs [(c.b[k]).2] = [.agg [.i (c.b[k]).2.kind, .i (c.b[k]).2.int, .v (.string (c.b[k]).2.name), .sl 4 (avs (c.b[k]).2.args) none]] := by rw [Zi, T.Qo7]
   rw [ea] at cg
   cases hr : bigB c.b[k] with
   | true =>
    rw [hr] at cg
    have e2 : c.b.any bigB = true := List.any_eq_true.2 ⟨_, hx, hr⟩
    repeat (first | ((first | (with_reducible (first | refine Qa fun K E hK hE => ?_ | refine Qp cg ?_))); simp -implicitDefEqProofs only [Qe, Qf, OpW, QK, aop, AS.ev, AV.QoY, ↓reduceIte, Qm, QA, QB, Qt, aBin, QM, aLen, goInt, ti23, ei23, un23, YX, ei29, ti41, zi41, Zc, t1, t3, Cs.cells, hlt, QL, QY hlt, QN, Xh, seval]) | (with_reducible (first | refine Qd fun K hK => ?_ | refine Qi ?_ | refine Qj ?_ | refine Qn ?_ | refine Qb ?_ | refine Qq ?_ | refine Qs ?_)) | ((with_reducible refine hK _ ?_); clear hK) | (refine Qg rfl ?_; simp only [↓reduceIte]))
    simp only [QD, Ql, Qr, upd, ↓reduceIte, QpS, QpW]; first | refine Qc (htake _ _) (.keep (.v _)) ⟨by rw [e2]; rfl, rfl⟩ | refine Qc List.take_length (.keep (.v _)) ⟨by rw [e2]; rfl, rfl⟩
   | false =>
    rw [hr] at cg
    repeat (first | ((first | (with_reducible (first | refine Qa fun K E hK hE => ?_ | refine Qk fun K E hK hE => ?_ | refine Qp cg ?_))); simp -implicitDefEqProofs only [Qe, Qf, OpW, QK, aop, AS.ev, AV.QoY, ↓reduceIte, Qm, QA, QB, Qt, aBin, QM, aLen, goInt, ti23, ei23, un23, YX, ei29, ti41, zi41, Zc, t1, t3, Cs.cells, hlt, QL, QY hlt, QN, Xh, seval]) | (with_reducible (first | refine Qd fun K hK => ?_ | refine Qi ?_ | refine Qn ?_ | refine Qb ?_ | refine Qo ?_)) | ((with_reducible refine hK _ ?_); clear hK) | (refine Qg rfl ?_; simp only [↓reduceIte, QpQ]))
    refine QV.mk (m' := c.b.length - (k + 1)) (by omega) ?_
    rw [hI]
    refine ⟨k + 1, M, rfl, hlt, ?_, t1, ?_, rfl⟩
    ·intro x hx
     rw [List.take_succ_eq_append_getElem hlt] at hx
     rcases List.mem_append.1 hx with hx | hx
     ·exact hall x hx
     ·rw [List.mem_singleton] at hx; subst hx; exact hr
    ·simp only [upd, ↓reduceIte]
     rw [QP (by omega)]
  ·have hkl : k = c.b.length := by omega
   subst hkl
   rw [List.take_length] at hall
   have eb0 : c.b.any bigB = false := by rw [List.any_eq_false]; intro x hx; rw [hall x hx]; decide
   repeat (first | (((with_reducible refine Qa fun K E hK hE => ?_)); simp -implicitDefEqProofs only [Qe, Qf, OpW, aop, AS.ev, ↓reduceIte, Qm, QA, QB, aBin, aLen, goInt, ti23, un23, YX, t1, t3, Cs.cells, hlt, QL, seval]) | (with_reducible (first | refine Qd fun K hK => ?_ | refine Qi ?_ | refine QC ?_ | refine Qb ?_ | refine Qw ?_ | refine Qy ?_)) | ((with_reducible refine hK _ ?_); clear hK) | (clear hK; (with_reducible refine hK _ ?_); clear hK) | (refine Qg rfl ?_; simp only [↓reduceIte, QpQ]))
   obtain ⟨I, hI⟩ : ∃ I : Nat → AS → Prop, I = fun m' s => ∃ (k : Nat) (M : AH), m' = c.l.length - k ∧ k ≤ c.l.length ∧ (∀ x ∈ c.l.take k, bigI x = false) ∧ s.tm 1 = .ptr h.length 0 0 ∧ s.tm 4 = .i k ∧ s.h = h ++ ([.cells 26 4 [c.av]] ++ M) := ⟨_, rfl⟩; refine QI I ?_ (m := c.l.length) ?_
   ·intro m' s hs; rw [hI] at hs; obtain ⟨tm, hp⟩ := s; dsimp only at hs; obtain ⟨k, M, rfl, hk, hall, t1, t4, rfl⟩ := hs
    by_cases hlt : k < c.l.length
    ·have hx := List.getElem_mem hlt
     have cg : Pure Tryz.prog 29 [.sl 2 [.agg [.v (.string (c.l[k]).atom.name), .sl 4 (avs (c.l[k]).atom.args) none]] none, .i 40] (.b (decide (Y6 [(c.l[k]).atom] 40 < 0))) :=
      QcX [(c.l[k]).atom] 40 (fun g hg => by rw [List.mem_singleton] at hg; subst hg; exact (ho.l _ hx).2) (by simp) (by omega) (by omega)
     have eb : decide (Y6 [(c.l[k]).atom] 40 < 0) = bigI c.l[k] := rfl
     rw [eb] at cg
     cases hr : bigI c.l[k] with
     | true =>
      rw [hr] at cg
      have e2 : c.l.any bigI = true := List.any_eq_true.2 ⟨_, hx, hr⟩
      repeat (first | ((first | (with_reducible (first | refine Qa fun K E hK hE => ?_ | refine Qp cg ?_))); simp -implicitDefEqProofs only [Qe, Qf, OpW, QK, aop, AS.ev, AV.QoY, ↓reduceIte, Qm, QA, QB, Qt, aBin, QM, aLen, goInt, ti24, ei24, un24, QaS, ei30, ti45, zi45, Qdy, t1, t4, Cs.cells, hlt, QR, XR It.av hlt, It.cells, It.isAgg, seval]) | (with_reducible (first | refine Qd fun K hK => ?_ | refine Qi ?_ | refine Qj ?_ | refine Qn ?_ | refine Qb ?_ | refine Qq ?_ | refine Qs ?_)) | ((with_reducible refine hK _ ?_); clear hK) | (refine Qg rfl ?_; simp only [↓reduceIte]))
      simp only [QD, Ql, Qr, upd, ↓reduceIte, QpS, QpW]; first | refine Qc (htake _ _) (.keep (.v _)) ⟨by rw [eb0, e2]; rfl, rfl⟩ | refine Qc List.take_length (.keep (.v _)) ⟨by rw [eb0, e2]; rfl, rfl⟩
     | false =>
      rw [hr] at cg
      repeat (first | ((first | (with_reducible (first | refine Qa fun K E hK hE => ?_ | refine Qk fun K E hK hE => ?_ | refine Qp cg ?_))); simp -implicitDefEqProofs only [Qe, Qf, OpW, QK, aop, AS.ev, AV.QoY, ↓reduceIte, Qm, QA, QB, Qt, aBin, QM, aLen, goInt, ti24, ei24, un24, QaS, ei30, ti45, zi45, Qdy, t1, t4, Cs.cells, hlt, QR, XR It.av hlt, It.cells, It.isAgg, seval]) | (with_reducible (first | refine Qd fun K hK => ?_ | refine Qi ?_ | refine Qn ?_ | refine Qb ?_ | refine Qo ?_)) | ((with_reducible refine hK _ ?_); clear hK) | (refine Qg rfl ?_; simp only [↓reduceIte, QpQ]))
      refine QV.mk (m' := c.l.length - (k + 1)) (by omega) ?_
      rw [hI]
      refine ⟨k + 1, M, rfl, hlt, ?_, t1, ?_, rfl⟩
      ·intro x hx
       rw [List.take_succ_eq_append_getElem hlt] at hx
       rcases List.mem_append.1 hx with hx | hx
       ·exact hall x hx
       ·rw [List.mem_singleton] at hx; subst hx; exact hr
      ·simp only [upd, ↓reduceIte]
       rw [QP (by omega)]
    ·have hkl : k = c.l.length := by omega
     subst hkl
     rw [List.take_length] at hall
     have e2 : c.l.any bigI = false := by rw [List.any_eq_false]; intro x hx; rw [hall x hx]; decide
     repeat (first | (((with_reducible refine Qa fun K E hK hE => ?_)); simp -implicitDefEqProofs only [Qe, Qf, OpW, aop, AS.ev, ↓reduceIte, Qm, QA, QB, aBin, aLen, goInt, ti24, un24, QaS, t1, t4, Cs.cells, hlt, QR, seval]) | (with_reducible (first | refine Qd fun K hK => ?_ | refine Qj ?_ | refine QC ?_ | refine Qb ?_ | refine Qw ?_ | refine Qy ?_)) | ((with_reducible refine hK _ ?_); clear hK) | (clear hK; (with_reducible refine hK _ ?_); clear hK) | (refine Qg rfl ?_; simp only [↓reduceIte, QpQ]))
     simp only [QD, Ql, Qr, upd, ↓reduceIte, QpS, QpW]; first | refine Qc (htake _ _) (.keep (.v _)) ⟨by rw [eb0, e2]; rfl, rfl⟩ | refine Qc List.take_length (.keep (.v _)) ⟨by rw [eb0, e2]; rfl, rfl⟩
   ·rw [hI]
    exact ⟨0, M, by omega, Nat.zero_le _, by simp, t1, rfl, rfl⟩
 ·rw [hI]
  exact ⟨0, [], by omega, Nat.zero_le _, by simp, rfl, rfl, rfl⟩
theorem QlA (a b : An) (hv : ndsL a.vals ≤ 1000000) (hs : gsN a.store ≤ 1000000) : Pure Tryz.prog 13 [a.av, b.av] (.b (ZZ a b == 0)) := by
 intro h
 have c := Qbk a b hv hs
 refine Qh Tryz.func13 rfl Tryz.call13 Tryz.ntmps13 (congrArg Array.toList Tryz.results13) (by simp) ?_
 repeat (first | ((first | (with_reducible (first | refine Qa fun K E hK hE => ?_ | refine Qp c ?_))); simp -implicitDefEqProofs only [Qe, Qf, OpW, QK, aop, undef, AS.ev, Qv, AV.QoY, ↓reduceIte, QA, QB, aBin, ti32, An.cells, An.isAgg, seval]) | (with_reducible refine Qj ?_) | ((with_reducible refine hK _ ?_); clear hK))
 simp only [QD, Ql, Qr, upd, ↓reduceIte, QpS, QpW]; first | refine Qc (htake _ _) (.keep (.v _)) ⟨rfl, rfl⟩ | refine Qc List.take_length (.keep (.v _)) ⟨rfl, rfl⟩
def bokB (x : Int × T) : Prop := i64 x.1 ∧ x.2.ok
def iokB (x : It) : Prop := x.atom.op = 0 ∧ x.atom.ok
theorem Qkf {H : Type} (enc : TypeId × Value → H) (W : World) (fuel : Nat) (cs : List Value) (y : DataW H × List MemPlace) (h : DataW.trod enc Tryz.prog W 0 (fun _ => true) true fuel 52 cs = some y) : ∃ p : (Int × T), bokB p ∧ Reads W (bav p) cs := by
 obtain ⟨xs, fu, hfu, _, hl, hlen, hf⟩ := DataW.trod_struct Tryz.underlying52 h
 have hC : Tryz.prog.cellsOf 52 = 5 := by kernel_rfl
 rw [hC] at hl
 have hlenN : xs.length = 2 := hlen
 obtain ⟨y0, l1, rfl, k1⟩ := Q8 hlenN
 obtain ⟨y1, l2, rfl, k2⟩ := Q8 k1
 obtain rfl := len_nil k2
 obtain ⟨c0, l1, rfl, k1⟩ := Q8 hl
 obtain ⟨c1, l2, rfl, k2⟩ := Q8 k1
 obtain ⟨c2, l3, rfl, k3⟩ := Q8 k2
 obtain ⟨c3, l4, rfl, k4⟩ := Q8 k3
 obtain ⟨c4, l5, rfl, k5⟩ := Q8 k4
 obtain rfl := len_nil k5
 have g0 : DataW.trod enc Tryz.prog W 0 (fun _ => true) true fu 3 (([c0, c1, c2, c3, c4].drop 0).take (Tryz.prog.cellsOf 3)) = some y0 := hf 0 _ rfl
 rw [show Tryz.prog.cellsOf 3 = 1 by kernel_rfl] at g0
 have g1 : DataW.trod enc Tryz.prog W 0 (fun _ => true) true fu 41 (([c0, c1, c2, c3, c4].drop 1).take (Tryz.prog.cellsOf 41)) = some y1 := hf 1 _ rfl
 rw [show Tryz.prog.cellsOf 41 = 4 by kernel_rfl] at g1
 clear hf
 simp only [Qp3, QpV, QpX, Qp4] at g0 g1
 obtain ⟨f0, e0, _, w0⟩ := DataW.trod_int Tryz.underlying3 g0
 obtain ⟨f1, q1, hr1⟩ := Qf8 enc W _ _ _ g1
 cases e0
 refine ⟨(f0, f1), ⟨Qik w0, q1⟩, rfl, fun j x v hx hv => ?_⟩
 rw [QN] at hx
 match j, hx, hv with
 | 0, hx, hv => simp at hx hv; subst hx; subst hv; exact ⟨.v _, rfl⟩
 | 1, hx, hv => simp at hx hv; subst hx; subst hv; exact hr1.2 0 _ _ (by rw [T.Qo3]; rfl) rfl
 | 2, hx, hv => simp at hx hv; subst hx; subst hv; exact hr1.2 1 _ _ (by rw [T.Qo3]; rfl) rfl
 | 3, hx, hv => simp at hx hv; subst hx; subst hv; exact hr1.2 2 _ _ (by rw [T.Qo3]; rfl) rfl
 | 4, hx, hv => simp at hx hv; subst hx; subst hv; exact hr1.2 3 _ _ (by rw [T.Qo3]; rfl) rfl
 | j + 5, hx, hv => simp at hx
theorem Qlt {H : Type} (enc : TypeId × Value → H) (W : World) (fuel : Nat) (cs : List Value) (y : DataW H × List MemPlace) (h : DataW.trod enc Tryz.prog W 0 (fun _ => true) true fuel 48 cs = some y) : ∃ p : It, iokB p ∧ Reads W (It.av p) cs := by
 obtain ⟨xs, fu, hfu, _, hl, hlen, hf⟩ := DataW.trod_struct Tryz.underlying48 h
 have hC : Tryz.prog.cellsOf 48 = 3 := by kernel_rfl
 rw [hC] at hl
 have hlenN : xs.length = 2 := hlen
 obtain ⟨y0, l1, rfl, k1⟩ := Q8 hlenN
 obtain ⟨y1, l2, rfl, k2⟩ := Q8 k1
 obtain rfl := len_nil k2
 obtain ⟨c0, l1, rfl, k1⟩ := Q8 hl
 obtain ⟨c1, l2, rfl, k2⟩ := Q8 k1
 obtain ⟨c2, l3, rfl, k3⟩ := Q8 k2
 obtain rfl := len_nil k3
 have g0 : DataW.trod enc Tryz.prog W 0 (fun _ => true) true fu 3 (([c0, c1, c2].drop 0).take (Tryz.prog.cellsOf 3)) = some y0 := hf 0 _ rfl
 rw [show Tryz.prog.cellsOf 3 = 1 by kernel_rfl] at g0
 have g1 : DataW.trod enc Tryz.prog W 0 (fun _ => true) true fu 45 (([c0, c1, c2].drop 1).take (Tryz.prog.cellsOf 45)) = some y1 := hf 1 _ rfl
 rw [show Tryz.prog.cellsOf 45 = 2 by kernel_rfl] at g1
 clear hf
 simp only [Qp3, QpV, QpX, Qp4] at g0 g1
 obtain ⟨f0, e0, _, w0⟩ := DataW.trod_int Tryz.underlying3 g0
 obtain ⟨f1, q1, hr1⟩ := Qk2 enc W _ _ _ g1
 cases e0
 refine ⟨⟨f0, f1⟩, q1, rfl, fun j x v hx hv => ?_⟩
 rw [It.cells] at hx
 match j, hx, hv with
 | 0, hx, hv => simp at hx hv; subst hx; subst hv; exact ⟨.v _, rfl⟩
 | 1, hx, hv => simp at hx hv; subst hx; subst hv; exact hr1.2 0 _ _ rfl rfl
 | 2, hx, hv => simp at hx hv; subst hx; subst hv; exact hr1.2 1 _ _ rfl rfl
 | j + 3, hx, hv => simp at hx
theorem QkB {H : Type} (enc : TypeId × Value → H) (W : World) (fuel : Nat) (cs : List Value) (y : DataW H × List MemPlace) (h : DataW.trod enc Tryz.prog W 0 (fun _ => true) true fuel 26 cs = some y) : ∃ p : Cs, Cs.ok p ∧ Reads W (Cs.av p) cs := by
 obtain ⟨xs, fu, hfu, _, hl, hlen, hf⟩ := DataW.trod_struct Tryz.underlying26 h
 have hC : Tryz.prog.cellsOf 26 = 4 := by kernel_rfl
 rw [hC] at hl
 have hlenN : xs.length = 4 := hlen
 obtain ⟨y0, l1, rfl, k1⟩ := Q8 hlenN
 obtain ⟨y1, l2, rfl, k2⟩ := Q8 k1
 obtain ⟨y2, l3, rfl, k3⟩ := Q8 k2
 obtain ⟨y3, l4, rfl, k4⟩ := Q8 k3
 obtain rfl := len_nil k4
 obtain ⟨c0, l1, rfl, k1⟩ := Q8 hl
 obtain ⟨c1, l2, rfl, k2⟩ := Q8 k1
 obtain ⟨c2, l3, rfl, k3⟩ := Q8 k2
 obtain ⟨c3, l4, rfl, k4⟩ := Q8 k3
 obtain rfl := len_nil k4
 have g0 : DataW.trod enc Tryz.prog W 0 (fun _ => true) true fu 3 (([c0, c1, c2, c3].drop 0).take (Tryz.prog.cellsOf 3)) = some y0 := hf 0 _ rfl
 rw [show Tryz.prog.cellsOf 3 = 1 by kernel_rfl] at g0
 have g1 : DataW.trod enc Tryz.prog W 0 (fun _ => true) true fu 23 (([c0, c1, c2, c3].drop 1).take (Tryz.prog.cellsOf 23)) = some y1 := hf 1 _ rfl
 rw [show Tryz.prog.cellsOf 23 = 1 by kernel_rfl] at g1
 have g2 : DataW.trod enc Tryz.prog W 0 (fun _ => true) true fu 24 (([c0, c1, c2, c3].drop 2).take (Tryz.prog.cellsOf 24)) = some y2 := hf 2 _ rfl
 rw [show Tryz.prog.cellsOf 24 = 1 by kernel_rfl] at g2
 have g3 : DataW.trod enc Tryz.prog W 0 (fun _ => true) true fu 4 (([c0, c1, c2, c3].drop 3).take (Tryz.prog.cellsOf 4)) = some y3 := hf 3 _ rfl
 rw [show Tryz.prog.cellsOf 4 = 1 by kernel_rfl] at g3
 clear hf
 simp only [Qp3, QpV, QpX, Qp4] at g0 g1 g2 g3
 obtain ⟨f0, e0, _, w0⟩ := DataW.trod_int Tryz.underlying3 g0
 obtain ⟨f1, u1, q1, e1, hu1, hr1⟩ := QaF (X := (Int × T)) (val := bav) (Good := bokB) (s := 5) Tryz.underlying23 (by kernel_rfl) (by omega) (fun t => by rw [QN]; rfl) (fun m cs y _ hy => Qkf enc W m cs y hy) g1
 have n1 := Qao hr1
 obtain ⟨f2, u2, q2, e2, hu2, hr2⟩ := QaF (X := It) (val := It.av) (Good := iokB) (s := 3) Tryz.underlying24 (by kernel_rfl) (by omega) (fun t => by rw [It.cells]; rfl) (fun m cs y _ hy => Qlt enc W m cs y hy) g2
 have n2 := Qao hr2
 obtain ⟨f3, e3, _⟩ := DataW.trod_bool Tryz.underlying4 g3
 cases e0
 cases e1
 cases e2
 cases e3
 refine ⟨⟨f0, f1, f2, f3⟩, ⟨Qik w0, q1, q2⟩, rfl, fun j x v hx hv => ?_⟩
 rw [Cs.cells] at hx
 match j, hx, hv with
 | 0, hx, hv => simp at hx hv; subst hx; subst hv; exact ⟨.v _, rfl⟩
 | 1, hx, hv => simp at hx hv; subst hx; subst hv; exact ⟨hr1, hu1⟩
 | 2, hx, hv => simp at hx hv; subst hx; subst hv; exact ⟨hr2, hu2⟩
 | 3, hx, hv => simp at hx hv; subst hx; subst hv; exact ⟨.v _, rfl⟩
 | j + 4, hx, hv => simp at hx
end Go.Proofs.YtniljpjjnmkoaaaGreatDoor.Ab

