/-
  An abstract program logic, contracts of functions, and laws of terms and rules (part 5).
-/
import Derived.Test.YtniljpjjnmkoaaaGreatDoorAbFour
import Derived.Test.YtniljpjjnmkoaaaGreatDoorAbThree
import Derived.Test.YtniljpjjnmkoaaaGreatDoorAbTwo
import Derived.Lib.ItoaNum
import Derived.Lib.ItoaMem
import Derived.Lib.AtoiTie
import Derived.RecoverIn
set_option linter.unusedVariables false
set_option linter.unusedSimpArgs false
set_option maxHeartbeats 4000000
set_option maxRecDepth 4000
namespace Go.Proofs.YtniljpjjnmkoaaaGreatDoor.Ab
open Go.Proofs
theorem QgA (t : T) : (YI t).Nodup := by
  have key : ∀ (n : Nat) (l : List T), ndsL l ≤ n → ∀ s : List Int, s.Nodup → (walks YX s l).2.Nodup := by
    intro n
    induction n with
    | zero =>
      intro l hl s hs
      cases l with
      | nil => exact hs
      | cons t l => simp only [ndsL] at hl; have := T.QnE t; omega
    | succ n ih =>
      intro l hl s hs
      cases l with
      | nil => exact hs
      | cons t l =>
        simp only [ndsL] at hl
        have hnd := T.QnE t
        have h1 : (T.walk YX s t).2.Nodup := by
          rw [T.walk_eq]
          split
          · simp only [YX]
            split
            · exact hs
            · rename_i hm
              exact List.nodup_append.2 ⟨hs, by simp, fun a ha b hb => by
                simp only [List.mem_singleton] at hb
                subst hb
                exact fun e => hm (e ▸ ha)⟩
          · exact ih _ (by have := Qb1 t; omega) s hs
        simp only [walks]
        split
        · exact ih l (by omega) _ h1
        · exact h1
  exact key _ [t] (Nat.le_refl _) [] List.nodup_nil
theorem Qep (n : Int) (vals : List T) (store : List G) : (XU n vals store).Nodup := (QgA _).filter _
theorem QjA (n : Int) (b : List (Int × T)) (l : List It) (H : SmallC b l) (hbad : QfE n b l = false) :
    Pure Tryz.prog 11 [.i n, .sl 5 (bavs b) none, .sl 3 (vs It.av l) none, .v (.bool false)] (.tup [(ofC n b l false).1.av, .i (ofC n b l false).2]) := by
  intro h
  have hl7 := H.l1
  have hb1 := H.b1
  have hz : ∀ (e : Int) (own : AH), Frz (h ++ own) h.length (.tup [.agg [.v (.bool false), .v (.slice none 0 0), .v (.slice none 0 0)], .i e]) (.tup [An.nil.av, .i e]) := fun e own =>
    .tup rfl (Xn (.agg rfl (Xn (.keep (.v _)) (Xn (.nil 4) (Yz (.nil 2))))) (Yz (.keep (.v _))))
  have c1 := QcS b (by omega) (fun x hx => by have := H.b2 x hx; omega) H.b3
  have c2 := Qbj l (by omega)
  have hbad' := hbad
  simp only [QfE, Bool.or_eq_false_iff, decide_eq_false_iff_not, Bool.not_eq_false'] at hbad'
  obtain ⟨k1, k2, k3, k4⟩ := hbad'
  rw [k3] at c1
  rw [k4] at c2
  obtain ⟨N, rfl⟩ : ∃ N : Nat, n = (N : Int) := ⟨n.toNat, by omega⟩
  have hN : N ≤ 100 := by omega
  have eO : ofC N b l false = (if (QZ b l).any (fun g => !QS g) = true then (An.nil, 6) else
    if 6 < (XU N (valsOf b N) (QZ b l)).length then (An.nil, 15) else
    (⟨false, (QbU N ⟨valsOf b N, QZ b l⟩ (XU N (valsOf b N) (QZ b l))).vals, (QbU N ⟨valsOf b N, QZ b l⟩ (XU N (valsOf b N) (QZ b l))).store⟩, 0)) := by
    rw [ofC, if_neg (by rw [hbad]; decide), if_neg (by decide), Int.toNat_natCast]
  refine Qe Tryz.func11 rfl Tryz.call11 Tryz.ntmps11 (congrArg Array.toList Tryz.results11) (by simp) ?_
  repeat (first | ((first | (with_reducible (first | refine Qa fun K E hK hE => ?_ | refine Qk c1 ?_ | refine Qk c2 ?_))); simp -implicitDefEqProofs only [Qg, Qf, OpW, QI, aop, undef, AS.ev, Qu, AV.QnA, ↓reduceIte, Nat.reduceAdd, Nat.reduceLT, Nat.reduceEqDiff, aBin, zi32, zi76, k1, k2]) | (with_reducible (first | refine Qd fun K hK => ?_ | refine Qi ?_ | refine Qn ?_ | refine Qb ?_)) | ((with_reducible refine hK _ ?_); clear hK) | (refine Qh rfl ?_; simp only [↓reduceIte, Qok]))
  refine Zw (h.length + 1) 76 2 4 (.grow 41 4 0) (.inr ⟨_, rfl⟩) [.agg [.v (.slice none 0 0), .v (.slice none 0 0)]] [.agg [.sl 4 [] (some (h.length + 2)), .v (.slice none 0 0)]] 0 (by rw [hget]; rfl) rfl (by simp [flat, AV.cells]) (by simp [AV.cells]) ?_
  refine Zw (h.length + 1) 76 2 2 (.grow 45 2 0) (.inr ⟨_, rfl⟩) [.agg [.sl 4 [] (some (h.length + 2)), .v (.slice none 0 0)]] [.agg [.sl 4 [] (some (h.length + 2)), .sl 2 [] (some (h.length + 3))]] 1 (by rw [List.getElem?_set_self (by simp)]) rfl (by simp [flat, AV.cells]) (by simp [AV.cells]) ?_
  obtain ⟨I, hI⟩ : ∃ I : Nat → AS → Prop, I = fun m' s => ∃ (k : Nat) (M : AH), m' = N - k ∧ k ≤ N ∧ s.tm 0 = .i N ∧ s.tm 1 = .sl 5 (bavs b) none ∧ s.tm 2 = .sl 3 (vs It.av l) none ∧ s.tm 8 = .ptr h.length 0 0 ∧ s.tm 11 = .ptr (h.length + 1) 0 0 ∧ s.tm 36 = .i N ∧ s.tm 37 = .i k ∧
      s.h = h ++ ([.cells 32 3 [.agg [.v (.bool false), .v (.slice none 0 0), .v (.slice none 0 0)]], .cells 76 2 [.agg [.sl 4 (avs (valsOf b k)) (some (h.length + 2)), .sl 2 [] (some (h.length + 3))]], .grow 41 4 k, .grow 45 2 0] ++ M) := ⟨_, rfl⟩; refine QK I ?_ (m := N) ?_
  · intro m' s hs; rw [hI] at hs; obtain ⟨tm, hp⟩ := s; dsimp only at hs; obtain ⟨k, M, rfl, hk, t0, t1, t2, t8, t11, t36, t37, rfl⟩ := hs
    by_cases hlt : k < N
    · have cv := Qf8 (k : Int)
      have ca := apply_pure b (by omega) 1 (by omega) (vT k) (Nat.le_refl _)
      have hb1 : k + 1 ≤ maxLen := by simp only [maxLen]; omega
      have hb2 : (k + 1) * 56 ≤ 140737488355328 := by omega
      have hvl := Qbb b k
      change Pure _ _ _ (vT k).av at cv
      repeat (first | ((first | (with_reducible (first | refine Qa fun K E hK hE => ?_ | refine Qm fun K E hK hE => ?_ | refine Qt cv ?_ | refine Qt ca ?_)) | (refine QH (id := 10) [(0, 0), (1, 0), (2, 0), (3, 0), (4, 1), (5, 1), (6, 0), (7, 2), (8, 0), (9, 2)] mixed (by kernel_rfl) fun K hK => ?_)); simp -implicitDefEqProofs only [Qg, Qf, OpW, aop, undef, AS.ev, AV.QnA, ↓reduceIte, Nat.reduceAdd, Nat.reduceLT, Nat.reduceLeDiff, Nat.reduceEqDiff, Nat.reduceMul, Qq, QD, QE, QN, QJ, aBin, QM, XG, XV, Nat.reducePow, ti29, ei29, ai29, zi41, Qi2, t1, t11, t36, t37, hlt, hvl, hb1, hb2]) | (with_reducible (first | refine Qd fun K hK => ?_ | refine Qi ?_ | refine Qn ?_ | refine Qb ?_ | refine Qo ?_)) | ((with_reducible refine hK _ ?_); clear hK) | (refine Qh rfl ?_; simp only [↓reduceIte]))
      refine Q4.mk (m' := N - (k + 1)) (by omega) ?_
      rw [hI]
      refine ⟨k + 1, M, rfl, hlt, t0, t1, t2, t8, t11, t36, ?_, ?_⟩
      · simp only [upd, ↓reduceIte]
        rw [QT (by omega)]
      · rw [QaI, Qao, Qbu]; simp
    · have hkN : N = k := by omega
      subst hkN
      repeat (first | (((with_reducible refine Qa fun K E hK hE => ?_)); simp -implicitDefEqProofs only [Qg, Qf, OpW, aop, AS.ev, ↓reduceIte, Nat.reduceLT, Nat.reduceEqDiff, aBin, aLen, goInt, un24, t2, t36, t37, hlt, QU]) | (with_reducible (first | refine Qd fun K hK => ?_ | refine Qi ?_ | refine QB ?_ | refine Qb ?_ | refine Qw ?_ | refine Qv ?_)) | ((with_reducible refine hK _ ?_); clear hK) | (clear hK; (with_reducible refine hK _ ?_); clear hK) | (refine Qh rfl ?_; simp only [↓reduceIte, Qok]))
      obtain ⟨I, hI⟩ : ∃ I : Nat → AS → Prop, I = fun m' s => ∃ (k : Nat) (M : AH), m' = l.length - k ∧ k ≤ l.length ∧ (∀ g ∈ QZ b (l.take k), QS g = true) ∧ s.tm 0 = .i N ∧ s.tm 1 = .sl 5 (bavs b) none ∧ s.tm 8 = .ptr h.length 0 0 ∧ s.tm 11 = .ptr (h.length + 1) 0 0 ∧ s.tm 50 = .sl 3 (vs It.av l) none ∧ s.tm 51 = .i l.length ∧ s.tm 52 = .i k ∧
          s.h = h ++ ([.cells 32 3 [.agg [.v (.bool false), .v (.slice none 0 0), .v (.slice none 0 0)]], .cells 76 2 [.agg [.sl 4 (avs (valsOf b N)) (some (h.length + 2)), .sl 2 (vs G.atom (QZ b (l.take k))) (some (h.length + 3))]], .grow 41 4 N, .grow 45 2 k] ++ M) := ⟨_, rfl⟩; refine QK I ?_ (m := l.length) ?_
      · intro m' s hs; rw [hI] at hs; obtain ⟨tm, hp⟩ := s; dsimp only at hs; obtain ⟨k, M, rfl, hk, hall, t0, t1, t8, t11, t50, t51, t52, rfl⟩ := hs
        by_cases hlt : k < l.length
        · have hx := List.getElem_mem hlt
          have h50 := H.l2 _ hx
          have ca : Pure Tryz.prog 38 [.sl 5 (bavs b) none, .agg [.v (.string (l[k]).atom.name), .sl 4 (avs (l[k]).atom.args) none]] (subG b (l[k]).atom).atom := Qdu b (by omega) (l[k]).atom (by omega)
          have cr := YD (subG b (l[k]).atom)
          have hsl : (QZ b (l.take k)).length = k := by rw [QaD, List.length_take]; omega
          have hb1 : k + 1 ≤ maxLen := by simp only [maxLen]; omega
          have hb2 : (k + 1) * 40 ≤ 140737488355328 := by omega
          cases hr : QS (subG b (l[k]).atom) with
          | false =>
            rw [hr] at cr
            have e : ofC N b l false = (An.nil, 6) := by
              rw [eO, if_pos]
              rw [List.any_eq_true]
              exact ⟨_, List.mem_map.2 ⟨_, hx, rfl⟩, by rw [hr]; rfl⟩
            repeat (first | ((first | (with_reducible (first | refine Qa fun K E hK hE => ?_ | refine Qk ca ?_ | refine Qk cr ?_))); simp -implicitDefEqProofs only [Qg, Qf, OpW, QI, aop, undef, AS.ev, AV.QnA, ↓reduceIte, Nat.reduceAdd, Nat.reduceLT, Nat.reduceLeDiff, Nat.reduceEqDiff, Qq, QD, QE, QN, QJ, Qz, aBin, XS, Yb, ei24, ti32, zi32, sp32, ti45, zi45, ti48, QjQ, zi48, t1, t8, t50, t51, t52, hlt, QU, XR It.av hlt, It.cells, It.isAgg, QR, Q0]) | (with_reducible (first | refine Qd fun K hK => ?_ | refine Qi ?_ | refine Qj ?_ | refine Qn ?_ | refine Qb ?_ | refine Qp ?_ | refine Qs ?_)) | ((with_reducible refine hK _ ?_); clear hK) | (refine Qh rfl ?_; simp only [↓reduceIte]))
            simp -implicitDefEqProofs only [Qg, ↓reduceIte, Nat.reduceAdd, Nat.reduceEqDiff, QD, QE, ti32, t8, List.mapM_cons, List.mapM_nil, Option.pure_def, Option.bind_eq_bind, QC, Ql, Qr, Qoq]
            rw [e]
            exact Qc (htake _ _) (hz _ _) ⟨rfl, rfl⟩
          | true =>
            rw [hr] at cr
            repeat (first | ((first | (with_reducible (first | refine Qa fun K E hK hE => ?_ | refine Qm fun K E hK hE => ?_ | refine Qk ca ?_ | refine Qk cr ?_))); simp -implicitDefEqProofs only [Qg, Qf, OpW, QI, aop, undef, AS.ev, AV.QnA, ↓reduceIte, Nat.reduceAdd, Nat.reduceLT, Nat.reduceLeDiff, Nat.reduceEqDiff, Nat.reduceMul, Qq, QD, QE, QN, QJ, Qz, aBin, QM, XG, XV, Nat.reducePow, ei24, ti30, ei30, ai30, ti45, zi45, ti48, QjQ, zi48, QiK, t1, t11, t50, t51, t52, hlt, QU, XR It.av hlt, It.cells, It.isAgg, QR, Q0, hsl, hb1, hb2]) | (with_reducible (first | refine Qd fun K hK => ?_ | refine Qi ?_ | refine Qn ?_ | refine Qb ?_ | refine Qo ?_)) | ((with_reducible refine hK _ ?_); clear hK) | (refine Qh rfl ?_; simp only [↓reduceIte, Qok]))
            refine Q4.mk (m' := l.length - (k + 1)) (by omega) ?_
            rw [hI]
            refine ⟨k + 1, M ++ [.cells 48 3 [(l[k]).av], .cells 45 2 [(subG b (l[k]).atom).atom]], rfl, hlt, ?_, t0, t1, t8, t11, t50, t51, ?_, ?_⟩
            · rw [Qb3 b hlt]
              intro g hg
              rcases List.mem_append.1 hg with hg | hg
              · exact hall g hg
              · rw [List.mem_singleton] at hg; subst hg; exact hr
            · simp only [upd, ↓reduceIte]
              rw [QT (by omega)]
            · rw [Qb3 b hlt, Qkd, QmX]; simp
        · have hkl : k = l.length := by omega
          subst hkl
          rw [List.take_length] at hall ⊢
          have hV := H.vals N
          have hS := H.store
          have hoth : Q9 Tryz.prog 39 [.agg [.sl 4 (avs (valsOf b N)) (some (h.length + 2)), .sl 2 (vs G.atom (QZ b l)) (some (h.length + 3))], .i N] (h ++ AB.cells 32 3 [AV.agg [AV.v (.bool false), AV.v (.slice none 0 0), AV.v (.slice none 0 0)]] :: AB.cells 76 2 [AV.agg [AV.sl 4 (avs (valsOf b N)) (some (h.length + 2)), AV.sl 2 (vs G.atom (QZ b l)) (some (h.length + 3))]] :: AB.grow 41 4 N :: AB.grow 45 2 l.length :: M) fun o h' => o = .ret (.sl 1 (ints (XU N (valsOf b N) (QZ b l))) none) ∧ h' = h ++ AB.cells 32 3 [AV.agg [AV.v (.bool false), AV.v (.slice none 0 0), AV.v (.slice none 0 0)]] :: AB.cells 76 2 [AV.agg [AV.sl 4 (avs (valsOf b N)) (some (h.length + 2)), AV.sl 2 (vs G.atom (QZ b l)) (some (h.length + 3))]] :: AB.grow 41 4 (valsOf b N ++ XE (QZ b l)).length :: AB.grow 45 2 l.length :: M := by
            have := QgX (valsOf b N) (QZ b l) N (some (h.length + 3)) (h.length + 2) (h ++ AB.cells 32 3 [AV.agg [AV.v (.bool false), AV.v (.slice none 0 0), AV.v (.slice none 0 0)]] :: AB.cells 76 2 [AV.agg [AV.sl 4 (avs (valsOf b N)) (some (h.length + 2)), AV.sl 2 (vs G.atom (QZ b l)) (some (h.length + 3))]] :: AB.grow 41 4 N :: AB.grow 45 2 l.length :: M) (by simp <;> omega) (by omega) (H.Qn7 N (by omega)) H.Qn9
            rw [Qbb, QeO (by rw [hget]; rfl)] at this
            rwa [hs, hset] at this
          have hbadn : ¬ (QZ b l).any (fun g => !QS g) = true := by
            rw [List.any_eq_true]
            rintro ⟨g, hg, hq⟩
            rw [hall g hg] at hq
            cases hq
          rw [if_neg hbadn] at eO
          by_cases h6 : 6 < (XU N (valsOf b N) (QZ b l)).length
          · rw [if_pos h6] at eO
            have h6' : ((XU N (valsOf b N) (QZ b l)).length : Int) > 6 := by omega
            repeat (first | ((first | (with_reducible (first | refine Qa fun K E hK hE => ?_ | refine FunW.ret (FunW.call hoth) ?_))); simp -implicitDefEqProofs only [Qg, Qf, OpW, QI, aop, undef, AS.ev, AV.QnA, ↓reduceIte, Nat.reduceAdd, Nat.reduceLT, Nat.reduceEqDiff, QD, QE, QN, QJ, aBin, XS, Yb, aLen, goInt, ti32, zi32, sp32, un49, ti76, t0, t8, t11, t51, t52, hlt, h6']) | (with_reducible (first | refine Qd fun K hK => ?_ | refine Qj ?_ | refine QB ?_ | refine Qb ?_ | refine Qp ?_ | refine Qw ?_ | refine Qv ?_)) | ((with_reducible refine hK _ ?_); clear hK) | (clear hK; (with_reducible refine hK _ ?_); clear hK) | (refine Qh rfl ?_; simp only [↓reduceIte, Qok]))
            simp -implicitDefEqProofs only [Qg, ↓reduceIte, Nat.reduceAdd, Nat.reduceEqDiff, QD, QE, ti32, t8, List.mapM_cons, List.mapM_nil, Option.pure_def, Option.bind_eq_bind, QC, Ql, Qr, Qoq]
            rw [eO]
            exact Qc (htake _ _) (hz _ _) ⟨rfl, rfl⟩
          · rw [if_neg h6] at eO
            have h6' : ¬ ((XU N (valsOf b N) (QZ b l)).length : Int) > 6 := by omega
            have cl := QhT ⟨valsOf b N, QZ b l⟩ N (XU N (valsOf b N) (QZ b l)) (by omega) (by omega) (Qep _ _ _) (by simp only; omega) (by simp only; omega) (by simp only; rw [QaD]; omega)
            have hw : WkL [AV.agg [.sl 4 (avs (valsOf b N)) (some (h.length + 2)), .sl 2 (vs G.atom (QZ b l)) (some (h.length + 3))], .i N, .sl 1 (ints (XU N (valsOf b N) (QZ b l))) none] [(Ct.mk (valsOf b N) (QZ b l)).av, .i N, .sl 1 (ints (XU N (valsOf b N) (QZ b l))) none] :=
              .cons (.agg (.cons (.sl rfl (fun y hy => by rw [YR, List.mem_map] at hy; obtain ⟨t, _, rfl⟩ := hy; exact T.cells4 t) (.refl _)) (.cons (.sl rfl (fun y hy => by simp only [vs, List.mem_map] at hy; obtain ⟨t, _, rfl⟩ := hy; rfl) (.refl _)) .nil))) (.cons (.refl _) (.cons (.refl _) .nil))
            have cl' := Zi hw cl
            repeat (first | ((first | (with_reducible (first | refine Qa fun K E hK hE => ?_ | refine FunW.ret (FunW.call hoth) ?_ | refine Qk cl' ?_))); simp -implicitDefEqProofs only [Qg, Qf, OpW, QI, aop, undef, AS.ev, AV.QnA, ↓reduceIte, Nat.reduceAdd, Nat.reduceLT, Nat.reduceEqDiff, QD, QE, QN, QJ, aBin, aLen, goInt, ti32, un49, ti76, t0, t8, t11, t51, t52, hlt, h6', An.cells, An.isAgg]) | (with_reducible (first | refine Qd fun K hK => ?_ | refine Qj ?_ | refine Qn ?_ | refine QB ?_ | refine Qb ?_ | refine Qw ?_ | refine Qv ?_)) | ((with_reducible refine hK _ ?_); clear hK) | (clear hK; (with_reducible refine hK _ ?_); clear hK) | (refine Qh rfl ?_; simp only [↓reduceIte, Qok]))
            simp -implicitDefEqProofs only [Qg, ↓reduceIte, Nat.reduceAdd, Nat.reduceEqDiff, QD, QE, ti32, t8, An.cells, An.isAgg, List.mapM_cons, List.mapM_nil, Option.pure_def, Option.bind_eq_bind, QC, Ql, Qr, Qoq]
            rw [eO]
            exact Qc (htake _ _) (.tup rfl (Xn (.keep (An.below _ _)) (Yz (.keep (.v _))))) ⟨rfl, rfl⟩
      · rw [hI]
        exact ⟨0, M, by omega, Nat.zero_le _, by simp [QZ], t0, t1, t8, t11, rfl, by simp only [upd, ↓reduceIte, Nat.reduceEqDiff], rfl, by simp [QZ, vs]⟩
  · rw [hI]
    refine ⟨0, [], by omega, Nat.zero_le _, rfl, rfl, rfl, rfl, rfl, rfl, rfl, ?_⟩
    simp [valsOf, nums, avs]
end Go.Proofs.YtniljpjjnmkoaaaGreatDoor.Ab
set_option maxRecDepth 4000
namespace Go.Proofs.YtniljpjjnmkoaaaGreatDoor.Ab
open Go.Proofs
end Go.Proofs.YtniljpjjnmkoaaaGreatDoor.Ab
namespace Go.Proofs.YtniljpjjnmkoaaaGreatDoor.Ab
mutual
def T.dep : T → Nat
  | .mk k _ _ l => 1 + (if k = 2 then deps l else 0)
def deps : List T → Nat
  | [] => 0
  | t :: l => max t.dep (deps l)
end
theorem T.Qn6 (t : T) : t.dep = 1 + deps t.uses := by
  cases t with | mk k i n l =>
  show T.dep (.mk k i n l) = 1 + deps (if k = 2 then l else [])
  simp only [T.dep]
  by_cases h : k = 2
  · simp [h]
  · simp [h, deps]
theorem QcY : ∀ l r : List T, deps (l ++ r) = max (deps l) (deps r)
  | [], r => by simp [deps]
  | t :: l, r => by simp only [QoI, deps, QcY l r]; omega
theorem QdG {l : List T} {k : Nat} (h : k < l.length) : deps (l.take (k + 1)) = max (deps (l.take k)) (l[k]).dep := by
  rw [List.take_succ_eq_append_getElem h, QcY]; simp [deps]
mutual
theorem T.QnX : ∀ t : T, t.dep ≤ t.size
  | .mk k i n l => by
    simp only [T.dep, T.size]
    have := QdS l
    split <;> omega
theorem QdS : ∀ l : List T, deps l ≤ sizes l
  | [] => Nat.le_refl _
  | t :: l => by
    simp only [deps, sizes]
    have := T.QnX t
    have := QdS l
    omega
end
end Go.Proofs.YtniljpjjnmkoaaaGreatDoor.Ab
set_option maxRecDepth 4000
namespace Go.Proofs.YtniljpjjnmkoaaaGreatDoor.Ab
open Go.Proofs
theorem QbT (t : T) : Pure Tryz.prog 85 [t.av] (.sl 4 (avs t.uses) none) := by
  intro h
  refine Qe Tryz.func85 rfl Tryz.call85 Tryz.ntmps85 (congrArg Array.toList Tryz.results85) (by simp) ?_
  by_cases hk : t.kind = 2
  · have hb : (t.kind == 2) = true := by simpa using hk
    repeat (first | (((with_reducible refine Qa fun K E hK hE => ?_)); simp -implicitDefEqProofs only [Qg, Qf, OpW, aop, undef, AS.ev, Qu, AV.QnA, ↓reduceIte, Nat.reduceAdd, Nat.reduceLT, Nat.reduceEqDiff, Qq, QD, QE, aBin, ti3, ti29, QV, Q7, hb]) | (with_reducible (first | refine Qd fun K hK => ?_ | refine Qj ?_ | refine Qp ?_)) | ((with_reducible refine hK _ ?_); clear hK) | (refine Qh rfl ?_; simp only [↓reduceIte]))
    simp only [QC, Ql, Qr, upd, ↓reduceIte, Qom, Qoq]
    refine Qc (htake _ _) (.keep (Yh _ _)) ⟨by rw [T.uses, if_pos hk], rfl⟩
  · have hb : (t.kind == 2) = false := by simpa using hk
    repeat (first | (((with_reducible refine Qa fun K E hK hE => ?_)); simp -implicitDefEqProofs only [Qg, Qf, OpW, aop, undef, AS.ev, Qu, AV.QnA, ↓reduceIte, Nat.reduceAdd, Nat.reduceLT, Nat.reduceEqDiff, Qq, QD, QE, aBin, ti3, QV, hb]) | (with_reducible (first | refine Qd fun K hK => ?_ | refine Qj ?_ | refine Qn ?_ | refine Qb ?_)) | ((with_reducible refine hK _ ?_); clear hK) | (refine Qh rfl ?_; simp only [↓reduceIte, Qok]))
    simp only [QC, Ql, Qr, upd, ↓reduceIte, Qom, Qoq]
    refine Qc (htake _ _) (.nil 4) ⟨by rw [T.uses, if_neg hk]; rfl, rfl⟩
theorem Qjc {t : T} {k : Nat} (h : k < t.uses.length) : (t.uses[k]).size < t.size := by
  have h1 := ZP h
  have h2 := Zs t.uses (k + 1)
  have h3 := T.size_eq t
  omega
theorem Qb2 (n : Nat) : ∀ t : T, t.size ≤ n → n ≤ 1000000 → Pure Tryz.prog 81 [t.av] (.i (t.size : Nat)) := by
  induction n with
  | zero => intro t h; have := size_pos t; omega
  | succ n ih =>
    intro t hn hb h
    have hsz := T.size_eq t
    have hll := Z9 t.uses
    have c0 := QbT t
    refine Qe Tryz.func81 rfl Tryz.call81 Tryz.ntmps81 (congrArg Array.toList Tryz.results81) (by simp) ?_
    repeat (first | ((first | (with_reducible (first | refine Qa fun K E hK hE => ?_ | refine Qk c0 ?_))); simp -implicitDefEqProofs only [Qg, Qf, OpW, QI, aop, undef, AS.ev, Qu, AV.QnA, ↓reduceIte, Nat.reduceAdd, Nat.reduceLT, Nat.reduceEqDiff, QD, QE, ti41]) | (with_reducible (first | refine Qd fun K hK => ?_ | refine Qi ?_)) | ((with_reducible refine hK _ ?_); clear hK))
    obtain ⟨I, hI⟩ : ∃ I : Nat → AS → Prop, I = fun m' s => ∃ (k : Nat) (L : AH), m' = t.uses.length - k ∧ k ≤ t.uses.length ∧ s.tm 3 = .i ((1 + sizes (t.uses.take k) : Nat) : Int) ∧ s.tm 4 = .sl 4 (avs t.uses) none ∧ s.tm 5 = .i k ∧ s.h = h ++ L := ⟨_, rfl⟩; refine QK I ?_ (m := t.uses.length) ?_
    · intro m' s hs; rw [hI] at hs; obtain ⟨tm, hp⟩ := s; dsimp only at hs; obtain ⟨k, L, rfl, hk, t3, t4, t5, rfl⟩ := hs
      by_cases hlt : k < t.uses.length
      · have hts := ZP hlt
        have htl := Zs t.uses (k + 1)
        have c := ih t.uses[k] (by have := Qjc hlt; omega) (by omega)
        repeat (first | ((first | (with_reducible (first | refine Qa fun K E hK hE => ?_ | refine Qm fun K E hK hE => ?_ | refine Qk c ?_))); simp -implicitDefEqProofs only [Qg, Qf, OpW, QI, aop, AS.ev, ↓reduceIte, Nat.reduceAdd, Nat.reduceLT, Nat.reduceEqDiff, QD, QE, Qz, aBin, aLen, goInt, ei29, un29, ti41, hlt, t3, t4, t5, Xb hlt]) | (with_reducible (first | refine Qd fun K hK => ?_ | refine Qi ?_ | refine Qn ?_ | refine Qb ?_ | refine Qo ?_)) | ((with_reducible refine hK _ ?_); clear hK) | (refine Qh rfl ?_; simp only [↓reduceIte]))
        refine Q4.mk (m' := t.uses.length - (k + 1)) (by omega) ?_
        rw [hI]
        refine ⟨k + 1, _, rfl, hlt, ?_, t4, ?_, rfl⟩
        · simp only [upd, ↓reduceIte, Nat.reduceEqDiff]
          rw [Xj (by omega)]
          congr 2; omega
        · simp only [upd, ↓reduceIte]
          rw [QT (by omega)]
      · have hkl : k = t.uses.length := by omega
        repeat (first | (((with_reducible refine Qa fun K E hK hE => ?_)); simp -implicitDefEqProofs only [Qg, Qf, OpW, aop, AS.ev, ↓reduceIte, Nat.reduceLT, Nat.reduceEqDiff, aBin, aLen, goInt, un29, hlt, t3, t4, t5]) | (with_reducible (first | refine Qd fun K hK => ?_ | refine Qj ?_ | refine QB ?_ | refine Qb ?_ | refine Qw ?_ | refine Qv ?_)) | ((with_reducible refine hK _ ?_); clear hK) | (clear hK; (with_reducible refine hK _ ?_); clear hK) | (refine Qh rfl ?_; simp only [↓reduceIte, Qok]))
        simp only [QC, Ql, Qr, upd, ↓reduceIte, Qom, Qoq]
        refine Qc (htake _ _) (.keep (.v _)) ⟨?_, rfl⟩
        rw [hkl, List.take_length, hsz]
    · rw [hI]
      exact ⟨0, [.cells 41 4 [t.av]], by omega, Nat.zero_le _, rfl, rfl, rfl, rfl⟩
theorem QeY (n : Nat) : ∀ t : T, t.size ≤ n → n ≤ 1000000 → Pure Tryz.prog 82 [t.av] (.i (t.dep : Nat)) := by
  induction n with
  | zero => intro t h; have := size_pos t; omega
  | succ n ih =>
    intro t hn hb h
    have hsz := T.size_eq t
    have hll := Z9 t.uses
    have hde := T.Qn6 t
    have hds := T.QnX t
    have c0 := QbT t
    refine Qe Tryz.func82 rfl Tryz.call82 Tryz.ntmps82 (congrArg Array.toList Tryz.results82) (by simp) ?_
    repeat (first | ((first | (with_reducible (first | refine Qa fun K E hK hE => ?_ | refine Qk c0 ?_))); simp -implicitDefEqProofs only [Qg, Qf, OpW, QI, aop, undef, AS.ev, Qu, AV.QnA, ↓reduceIte, Nat.reduceAdd, Nat.reduceLT, Nat.reduceEqDiff, QD, QE, ti41]) | (with_reducible (first | refine Qd fun K hK => ?_ | refine Qi ?_)) | ((with_reducible refine hK _ ?_); clear hK))
    obtain ⟨I, hI⟩ : ∃ I : Nat → AS → Prop, I = fun m' s => ∃ (k : Nat) (L : AH), m' = t.uses.length - k ∧ k ≤ t.uses.length ∧ s.tm 3 = .i ((deps (t.uses.take k) : Nat) : Int) ∧ s.tm 4 = .sl 4 (avs t.uses) none ∧ s.tm 5 = .i k ∧ s.h = h ++ L := ⟨_, rfl⟩; refine QK I ?_ (m := t.uses.length) ?_
    · intro m' s hs; rw [hI] at hs; obtain ⟨tm, hp⟩ := s; dsimp only at hs; obtain ⟨k, L, rfl, hk, t3, t4, t5, rfl⟩ := hs
      by_cases hlt : k < t.uses.length
      · have hts := QdG hlt
        have c := ih t.uses[k] (by have := Qjc hlt; omega) (by omega)
        repeat (first | ((first | (with_reducible (first | refine Qa fun K E hK hE => ?_ | refine Qm fun K E hK hE => ?_ | refine Qk c ?_))); simp -implicitDefEqProofs only [Qg, Qf, OpW, QI, aop, AS.ev, ↓reduceIte, Nat.reduceAdd, Nat.reduceLT, Nat.reduceEqDiff, QD, QE, Qz, aBin, aLen, goInt, ei29, un29, ti41, hlt, t3, t4, t5, Xb hlt]) | (with_reducible (first | refine Qd fun K hK => ?_ | refine Qi ?_ | refine Qn ?_ | refine Qb ?_ | refine Qo ?_)) | ((with_reducible refine hK _ ?_); clear hK) | (refine Qh rfl ?_; simp only [↓reduceIte]))
        refine Q4.mk (m' := t.uses.length - (k + 1)) (by omega) ?_
        rw [hI]
        refine ⟨k + 1, _, rfl, hlt, ?_, t4, ?_, rfl⟩
        · simp only [upd, ↓reduceIte, Nat.reduceEqDiff]
          rw [hts]
          congr 2
          split <;> omega
        · simp only [upd, ↓reduceIte]
          rw [QT (by omega)]
      · have hkl : k = t.uses.length := by omega
        have hd2 : deps (t.uses.take k) = deps t.uses := by rw [hkl, List.take_length]
        rw [hd2] at t3
        repeat (first | (((with_reducible refine Qa fun K E hK hE => ?_)); simp -implicitDefEqProofs only [Qg, Qf, OpW, aop, AS.ev, ↓reduceIte, Nat.reduceLT, Nat.reduceEqDiff, aBin, aLen, goInt, un29, hlt, t3, t4, t5]) | (with_reducible (first | refine Qd fun K hK => ?_ | refine Qj ?_ | refine QB ?_ | refine Qb ?_ | refine Qw ?_ | refine Qv ?_)) | ((with_reducible refine hK _ ?_); clear hK) | (clear hK; (with_reducible refine hK _ ?_); clear hK) | (refine Qh rfl ?_; simp only [↓reduceIte, Qok]))
        simp only [QC, Ql, Qr, upd, ↓reduceIte, Qom, Qoq]
        refine Qc (htake _ _) (.keep (.v _)) ⟨?_, rfl⟩
        rw [QT (by omega), hde, Nat.add_comm]
    · rw [hI]
      exact ⟨0, [.cells 41 4 [t.av]], by omega, Nat.zero_le _, rfl, rfl, rfl, rfl⟩
end Go.Proofs.YtniljpjjnmkoaaaGreatDoor.Ab
namespace Go.Proofs.YtniljpjjnmkoaaaGreatDoor.Ab
open Go.Lib
def decN (n : Nat) : ByteArray := ⟨(decDigits n).toArray⟩
theorem QcU (n : Nat) : (decN n).size = nDigits n := by
  show (decDigits n).toArray.size = _
  rw [List.size_toArray, decDigits_length]
theorem QcK (n : Nat) : (decN n).data.toList = decDigits n := rfl
theorem Z2 : ∀ (k n : Nat), n < 10 ^ (k + 1) → nDigits n ≤ k + 1
  | 0, n, h => by rw [nDigits_small (by simpa using h)]; exact Nat.le_refl _
  | k + 1, n, h => by
    by_cases hn : n < 10
    · rw [nDigits_small hn]; omega
    · rw [nDigits_big hn]
      have := Z2 k (n / 10) (by rw [Nat.pow_succ] at h; omega)
      omega
theorem Qbf {n : Nat} (h : n ≤ 9223372036854775808) : (decN n).size ≤ 19 := by
  rw [QcU]
  exact Z2 18 n (by omega)
theorem Qcr {n : Nat} (h : n ≤ 1048576) : (decN n).size ≤ 7 := by
  rw [QcU]
  exact Z2 6 n (by omega)
theorem QkP (n : Nat) : 1 ≤ (decN n).size := by rw [QcU]; exact nDigits_pos n
theorem Qhy {a b : ByteArray} (h : a.data.toList = b.data.toList) : a = b := by
  obtain ⟨a⟩ := a; obtain ⟨b⟩ := b
  congr 1
  exact Array.toList_inj.1 h
theorem QcZ (a b : ByteArray) : (a ++ b).data.toList = a.data.toList ++ b.data.toList := by
  rw [ByteArray.data_append, Array.toList_append]
theorem Qal {n : Nat} (h : n < 10) : decN n = strOfNums [((48 + n : Nat) : Int)] := by
  refine Qhy ?_
  rw [QcK, decDigits_one h, strOfNums_data]
  rfl
theorem Qcu {n : Nat} (h : ¬ n < 10) : decN n = decN (n / 10) ++ strOfNums [((48 + n % 10 : Nat) : Int)] := by
  refine Qhy ?_
  rw [QcZ, QcK, QcK, decDigits, dif_neg h, strOfNums_data]
  rfl
end Go.Proofs.YtniljpjjnmkoaaaGreatDoor.Ab
set_option maxRecDepth 4000
namespace Go.Proofs.YtniljpjjnmkoaaaGreatDoor.Ab
open Go.Proofs Go.RowKit
def tabC : Array Value := (Lib.pow10Tab.map fun z => Value.int .u64 z).toArray
def Xm (h : AH) : Prop := HasG h 1 tabC
open Go.Sort in
theorem Qa7 (w : World) (q : Nat) (os : Array Obj) : Go.RowKit.Below w.heap.size w (grow (w.drewN q) os) :=
  ⟨rfl, rfl, rfl, by simp [grow], fun i hi => by
    show ((w.drewN q).heap ++ os)[i]? = _
    rw [Array.getElem?_append_left (by show i < w.heap.size; omega)]
    rfl⟩
theorem QjC (n : Nat) (hn : n ≤ 9223372036854775807) (h : AH) (hG : Xm h) : Q9 Tryz.prog 99 [.i n] h fun o h' => o = .ret (.v (.string (decN n))) ∧ h' = h :=
  Qdb (vs := [.int .i64 n]) Tryz.call99 fun c hst hh => by
    have hv : c.w.var? Tryz.prog "internal/strconv.uint64pow10" = some tabC := HasG.var hst (hh ▸ hG) (by kernel_rfl)
    refine (Tryz.strconv_Itoa n (by omega) (by omega) c.w hv).mono ?_
    rintro e w' ⟨rfl, k, os, rfl⟩
    refine ⟨_, rfl, ?_, fun c' => by rw [Lib.itoa_nonneg]; exact .v _⟩
    exact Qa7 c.w k os
theorem QfQ (n : Nat) (h1 : n ≤ 1048576) (h : AH) (hG : Xm h) : Q9 Tryz.prog 57 [.i n] h fun o h' => o = .ret (.v (.string (vOf (decN n)))) ∧ h' = h :=
  QkY n (by omega) (by omega) _ (by have := Qcr h1; omega) h (QjC n (by omega) h hG)
theorem Qmv (x : Int) (h0 : 0 ≤ x) (h1 : x < 256) : pv Tryz.prog (convert 3 5 (.int .i64 x)) = some (.int .u8 x) := by
  rw [Qg5 Tryz.prog 3 5 (ts := .int .i64) (kd := .u8) (by kernel_rfl) (by kernel_rfl)]
  have : IntKind.u8.wrap x = x := by simp [IntKind.wrap, IntKind.bits, IntKind.signed]; omega
  rw [this]
theorem QbW (n : Nat) : n ≤ 9223372036854775807 → Pure Tryz.prog 108 [.i n] (.v (.string (decN n))) := by
  induction n using Nat.strongRecOn with
  | _ n ih =>
    intro hn h
    have m0 : ¬ (n : Int) < 0 := by omega
    have hr := fun xo yo => QmI Tryz.prog 3 xo yo .i64 (n : Int) 10 (by decide)
    have hq := fun xo yo => Qlx Tryz.prog 3 xo yo .i64 (n : Int) 10 (by decide)
    have er : (n : Int).tmod 10 = ((n % 10 : Nat) : Int) := rfl
    have eq : IntKind.i64.wrap ((n : Int).tdiv 10) = ((n / 10 : Nat) : Int) := by
      rw [show (n : Int).tdiv 10 = ((n / 10 : Nat) : Int) from rfl, Xj (by omega)]
    have ew : IntKind.i64.wrap (48 + ((n % 10 : Nat) : Int)) = ((48 + n % 10 : Nat) : Int) := by rw [Xj (by omega)]; omega
    have hc := Qmv ((48 + n % 10 : Nat) : Int) (by omega) (by omega)
    have hby : QeI Tryz.prog 134 9 = true := by kernel_rfl
    by_cases hs : n < 10
    · have m1 : (n : Int) < 10 := by omega
      have e0 : n % 10 = n := Nat.mod_eq_of_lt hs
      rw [e0] at er ew hc
      refine Qe Tryz.func108 rfl Tryz.call108 Tryz.ntmps108 (congrArg Array.toList Tryz.results108) (by simp) ?_
      repeat (first | ((first | (with_reducible (first | refine Qa fun K E hK hE => ?_ | refine Qm fun K E hK hE => ?_))); simp -implicitDefEqProofs only [Qg, Qf, OpW, aop, undef, AS.ev, Qu, AV.QnA, ↓reduceIte, Nat.reduceLT, Nat.reduceLeDiff, Nat.reduceEqDiff, Nat.reduceMul, aBin, QM, XV, Nat.reducePow, zi5, Qiu, m0, m1, hr, er, ew, hc, Qaz, hby, intsOf]) | (with_reducible (first | refine Qd fun K hK => ?_ | refine Qi ?_ | refine Qj ?_ | refine QP ?_ | refine QQ ?_ | refine Qn ?_ | refine QB ?_ | refine Qb ?_ | refine Qp ?_ | refine Qw ?_ | refine Qo ?_ | refine Qs ?_ | refine Qv ?_ | refine QL rfl ?_)) | (with_reducible (first | refine hK _ ?_ | (clear hK; refine hK _ ?_) | (clear hK; clear hK; refine hK _ ?_) | (clear hK; clear hK; clear hK; refine hK _ ?_)); clear hK) | (refine Qh rfl ?_; simp only [↓reduceIte, Qok]) | (intro (b : Bool); cases b))
      simp only [QC, Ql, Qr, upd, ↓reduceIte, Qom, Qoq]; first | refine Qc (htake _ _) (.keep (.v _)) ⟨by rw [Qal hs], rfl⟩ | refine Qc List.take_length (.keep (.v _)) ⟨by rw [Qal hs], rfl⟩
    · have m1 : ¬ (n : Int) < 10 := by omega
      have c := ih (n / 10) (by omega) (by omega)
      have hsz : (decN (n / 10)).size ≤ 19 := Qbf (by omega)
      have hsa := fun xo yo => Xe Tryz.prog 9 xo yo (decN (n / 10)) (strOfNums [((48 + n % 10 : Nat) : Int)]) (by rw [strOfNums_size]; simp; omega)
      refine Qe Tryz.func108 rfl Tryz.call108 Tryz.ntmps108 (congrArg Array.toList Tryz.results108) (by simp) ?_
      repeat (first | ((first | (with_reducible (first | refine Qa fun K E hK hE => ?_ | refine Qm fun K E hK hE => ?_ | refine Qk c ?_ | refine Qt c ?_))); simp -implicitDefEqProofs only [Qg, Qf, OpW, QI, aop, undef, AS.ev, Qu, AV.QnA, ↓reduceIte, Nat.reduceLT, Nat.reduceLeDiff, Nat.reduceEqDiff, Nat.reduceMul, aBin, QM, XV, Nat.reducePow, zi5, Qiu, m0, m1, hr, hq, er, eq, ew, hc, Qaz, hby, intsOf, hsa]) | (with_reducible (first | refine Qd fun K hK => ?_ | refine Qi ?_ | refine Qj ?_ | refine QP ?_ | refine QQ ?_ | refine Qn ?_ | refine QB ?_ | refine Qb ?_ | refine Qp ?_ | refine Qw ?_ | refine Qo ?_ | refine Qs ?_ | refine Qv ?_ | refine QL rfl ?_)) | (with_reducible (first | refine hK _ ?_ | (clear hK; refine hK _ ?_) | (clear hK; clear hK; refine hK _ ?_) | (clear hK; clear hK; clear hK; refine hK _ ?_)); clear hK) | (refine Qh rfl ?_; simp only [↓reduceIte, Qok]) | (intro (b : Bool); cases b))
      simp only [QC, Ql, Qr, upd, ↓reduceIte, Qom, Qoq]; first | refine Qc (htake _ _) (.keep (.v _)) ⟨by rw [Qcu hs], rfl⟩ | refine Qc List.take_length (.keep (.v _)) ⟨by rw [Qcu hs], rfl⟩
theorem QaP (n : Nat) (h1 : n ≤ 1048576) : Pure Tryz.prog 61 [.i n] (.v (.string (vOf (decN n)))) := by
  intro h
  have m0 : ¬ (n : Int) < 0 := by omega
  have m1 : ¬ (n : Int) > 1048576 := by omega
  have c := QbW n (by omega)
  have hsz := Qcr h1
  have hsa := fun xo yo => Xe Tryz.prog 9 xo yo ({ data := #[86] } : ByteArray) (decN n) (by show 1 + _ ≤ _; omega)
  refine Qe Tryz.func61 rfl Tryz.call61 Tryz.ntmps61 (congrArg Array.toList Tryz.results61) (by simp) ?_
  repeat (first | ((first | (with_reducible (first | refine Qa fun K E hK hE => ?_ | refine Qm fun K E hK hE => ?_ | refine Qk c ?_ | refine Qt c ?_))); simp -implicitDefEqProofs only [Qg, Qf, OpW, QI, aop, undef, AS.ev, Qu, ↓reduceIte, Nat.reduceLT, Nat.reduceEqDiff, aBin, m0, m1, hsa]) | (with_reducible (first | refine Qd fun K hK => ?_ | refine Qi ?_ | refine Qj ?_ | refine QP ?_ | refine QQ ?_ | refine Qn ?_ | refine QB ?_ | refine Qb ?_ | refine Qp ?_ | refine Qw ?_ | refine Qo ?_ | refine Qs ?_ | refine Qv ?_ | refine QL rfl ?_)) | (with_reducible (first | refine hK _ ?_ | (clear hK; refine hK _ ?_) | (clear hK; clear hK; refine hK _ ?_) | (clear hK; clear hK; clear hK; refine hK _ ?_)); clear hK) | (refine Qh rfl ?_; simp only [↓reduceIte, Qok]) | (intro (b : Bool); cases b))
  simp only [QC, Ql, Qr, upd, ↓reduceIte, Qom, Qoq]; first | refine Qc (htake _ _) (.keep (.v _)) ⟨rfl, rfl⟩ | refine Qc List.take_length (.keep (.v _)) ⟨rfl, rfl⟩
end Go.Proofs.YtniljpjjnmkoaaaGreatDoor.Ab
set_option maxRecDepth 4000
namespace Go.Proofs.YtniljpjjnmkoaaaGreatDoor.Ab
open Go.Proofs
def BTy (ty : TypeId) : Prop := ty = 136 ∨ ty = 162
theorem QlT (xo : Operand) : pv Tryz.prog (do eqGuard .eql 133 xo (.const (.pointer none)) (.pointer none) (.pointer none); binOp .eql 133 (.pointer none) (.pointer none)) = some (.bool true) := by
  kernel_rfl
theorem BTy.cells {ty : TypeId} (h : BTy ty) : Tryz.prog.cellsOf ty = 2 := by rcases h with rfl | rfl <;> kernel_rfl
theorem BTy.lies {ty : TypeId} (h : BTy ty) : liesAt Tryz.prog Tryz.prog.depth ty 1 0 136 1 = true := by rcases h with rfl | rfl <;> kernel_rfl
theorem unB : Tryz.prog.underlying 133 = some (.pointer 136) := by kernel_rfl
theorem unU : Tryz.prog.underlying 181 = some .unsafePointer := by kernel_rfl
theorem inB : ∃ j, Tryz.prog.info? 136 = some j ∧ j.size ≠ 0 := by
  have h : (match Tryz.prog.info? 136 with | some j => decide (j.size ≠ 0) | none => false) = true := by kernel_rfl
  cases hj : Tryz.prog.info? 136 with
  | none => rw [hj] at h; cases h
  | some j => rw [hj] at h; exact ⟨j, rfl, of_decide_eq_true h⟩
theorem isB : (Tryz.prog.info? 136).isSome = true := by kernel_rfl
theorem toU {ty : TypeId} (hty : BTy ty) {h : AH} {i : Nat} {xs : List AV} (hb : h[i]? = some (.cells ty 2 [.agg xs])) : Za Tryz.prog 133 181 i 0 0 h = some (.ptr i 0 0) := by
  obtain ⟨j, hj, h0⟩ := inB
  simp only [Za, hb, unB, unU, hj]
  rw [if_neg (by simp), if_pos h0]
theorem Qnd {ty : TypeId} (hty : BTy ty) {h : AH} {i : Nat} {xs : List AV} (hb : h[i]? = some (.cells ty 2 [.agg xs])) : Za Tryz.prog 181 133 i 0 0 h = some (.ptr i 0 0) := by
  obtain ⟨j, hj, h0⟩ := inB
  simp only [Za, hb, unB, unU, hj]
  rw [if_neg (by simp), if_pos ⟨rfl, hty.cells, hty.lies⟩]
theorem Zv {ty : TypeId} (hty : BTy ty) {i j : Nat} (hij : i ≠ j) (u : Bool) (tx : ByteArray) : Wr Tryz.prog 5 ty 137 [.ptr i 0 0] i j u tx (.tup []) true tx := by
  intro h hi hj
  have f1 := fun x y => Yk h i x j y
  have f2 := fun x y => Yo (h := h) hi hij x y
  have f3 := fun x y z => Qch (h := h) (i := i) (j := j) hij x y z
  have f4 := QlT
  have c0 := fun y h => QiI (P := Tryz.prog) (y := y) (h := h) Tryz.func153 (by kernel_rfl) (by kernel_rfl) (by kernel_rfl) (by kernel_rfl)
  cases u
  · refine Qe Tryz.func137 rfl Tryz.call137 Tryz.ntmps137 (congrArg Array.toList Tryz.results137) (by simp) ?_
    rw [bw0, bw1]
    repeat (first | ((first | (with_reducible (first | refine Qa fun K E hK hE => ?_ | refine Qm fun K E hK hE => ?_ | refine FunW.ret (c0 _ _) ?_))); simp -implicitDefEqProofs only [Qg, Qf, OpW, QI, aop, undef, AS.ev, Qu, AV.QnA, ↓reduceIte, Nat.reduceAdd, Nat.reduceLT, Nat.reduceLeDiff, Nat.reduceEqDiff, Qq, QD, QE, QN, QJ, aBin, Qms, QiX, QO, f2, f3, f4, toU hty (Yo (h := h) hi hij _ _), Qnd hty (Yo (h := h) hi hij _ _)]) | ((with_reducible refine hK _ ?_); clear hK) | (refine Qh rfl ?_; simp only [↓reduceIte]))
    simp -implicitDefEqProofs only [Qoi, Qom, List.mapM_nil, Option.pure_def, Qoi, QC, Ql, Qoq]
    exact .inr ⟨rfl, rfl⟩
  · refine Qe Tryz.func137 rfl Tryz.call137 Tryz.ntmps137 (congrArg Array.toList Tryz.results137) (by simp) ?_
    rw [bw1]
    repeat (first | (((with_reducible refine Qa fun K E hK hE => ?_)); simp -implicitDefEqProofs only [Qg, Qf, OpW, aop, undef, AS.ev, Qu, ↓reduceIte, Nat.reduceLT, Nat.reduceEqDiff, Qq, QD, QE, aBin, Qms, Qnw, QiX, QO, f2, isB, Qdl, notNil]) | (with_reducible refine Qn ?_) | ((with_reducible refine hK _ ?_); clear hK) | (refine Qh rfl ?_; simp only [↓reduceIte, Qok]))
    simp -implicitDefEqProofs only [Qoi, Qom, List.mapM_nil, Option.pure_def, Qoi, QC, Ql, Qoq]
    exact .inr ⟨rfl, rfl⟩
theorem Qmc : Tryz.prog.underlying 134 = some (.slice 5) := by kernel_rfl
theorem QmP : Tryz.prog.underlying 9 = some .string := by kernel_rfl
theorem inU8 : ∃ i z, Tryz.prog.info? 5 = some i ∧ i.zero = some z ∧ i.size = 1 ∧ i.bytes = 1 ∧ z.cells.size = 1 := by
  have h : (match Tryz.prog.info? 5 with | some i => (match i.zero with | some z => decide (i.size = 1 ∧ i.bytes = 1 ∧ z.cells.size = 1) | none => false) | none => false) = true := by kernel_rfl
  cases hj : Tryz.prog.info? 5 with
  | none => rw [hj] at h; cases h
  | some i =>
    cases hz : i.zero with
    | none => rw [hj] at h; simp [hz] at h
    | some z => rw [hj] at h; simp only [hz] at h; exact ⟨i, z, rfl, hz, of_decide_eq_true h⟩
theorem appS {tx s : ByteArray} {j : Nat} {h : AH} (hj : h[j]? = some (.grow 5 1 tx.size)) (hs : tx.size + s.size ≤ 140737488355328) :
    Qak Tryz.prog 134 9 (.sl 1 (Q6 tx) (some j)) s h = some (.sl 1 (Q6 (tx ++ s)) (some j), h.set j (.grow 5 1 (tx ++ s).size)) := by
  obtain ⟨i, z, h1, h2, h3, h4, h5⟩ := inU8
  exact QgV Qmc QmP h1 h2 h3 h4 h5 hj hs
theorem appN : appInfo Tryz.prog 134 9 = none := by kernel_rfl
theorem Qcx {ty : TypeId} (hty : BTy ty) {i j : Nat} (hij : i ≠ j) (u : Bool) (tx s : ByteArray) (hs : tx.size + s.size ≤ 140737488355328) : Wr Tryz.prog 5 ty 106 [.ptr i 0 0, .v (.string s)] i j u tx (.tup [.i s.size, .v .nilIface]) true (tx ++ s) := by
  intro h hi hj
  have f1 := fun x y => Yk h i x j y
  have f2 := fun x y => Yo (h := h) hi hij x y
  have f3 := fun x y z => Qch (h := h) (i := i) (j := j) hij x y z
  have f5 := fun x y z => Qco (h := h) (i := i) (j := j) x y z
  have f6 := fun x => appS (Qac (h := h) (i := i) hj x (.grow 5 1 tx.size)) hs
  have c1 := Zv hty hij u tx h hi hj
  have hsl := Qby Tryz.prog 9 3 QmP s
  refine Qe Tryz.func106 rfl Tryz.call106 Tryz.ntmps106 (congrArg Array.toList Tryz.results106) (by simp) ?_
  repeat (first | ((first | (with_reducible (first | refine Qa fun K E hK hE => ?_ | refine FunW.ret (FunW.call c1) ?_))); simp -implicitDefEqProofs only [Qg, Qf, OpW, QI, aop, undef, AS.ev, Qu, AV.QnA, ↓reduceIte, Nat.reduceAdd, Nat.reduceLT, Nat.reduceLeDiff, Nat.reduceEqDiff, Qq, QD, QE, QN, QJ, aLen, XG, goInt, QkI, QeP, QO, f2, f3, f5, f6, bw1, aopR, appN, hsl]) | (with_reducible refine Qj ?_) | ((with_reducible refine hK _ ?_); clear hK))
  simp -implicitDefEqProofs only [Qg, ↓reduceIte, Nat.reduceEqDiff, List.mapM_nil, List.mapM_cons, Option.pure_def, Option.bind_eq_bind, QC, Ql, Qr, Qoq]
  exact .inr ⟨rfl, rfl⟩
theorem Qev {ty : TypeId} (hty : BTy ty) {i j : Nat} (hij : i ≠ j) (u : Bool) (tx : ByteArray) (b : UInt8) (hs : tx.size < 140737488355328) : Wr Tryz.prog 5 ty 152 [.ptr i 0 0, .v (.int .u8 (b.toNat : Nat))] i j u tx (.v .nilIface) true (tx ++ { data := #[b] }) := by
  intro h hi hj
  have f1 := fun x y => Yk h i x j y
  have f2 := fun x y => Yo (h := h) hi hij x y
  have f3 := fun x y z => Qch (h := h) (i := i) (j := j) hij x y z
  have f5 := fun x y z => Qco (h := h) (i := i) (j := j) x y z
  have f7 := fun x y => Qac (h := h) (i := i) hj x y
  have c1 := Zv hty hij u tx h hi hj
  have e1 : Q6 (tx ++ { data := #[b] }) = Q6 tx ++ [.v (.int .u8 (b.toNat : Nat))] := Y9 tx _
  have e2 : (tx ++ ({ data := #[b] } : ByteArray)).size = tx.size + 1 := QA _ _
  have hs' : tx.size + 1 ≤ 140737488355328 := hs
  refine Qe Tryz.func152 rfl Tryz.call152 Tryz.ntmps152 (congrArg Array.toList Tryz.results152) (by simp) ?_
  rw [bw1, e1, e2]
  have hm : tx.size + 1 ≤ maxLen := by simp only [maxLen]; omega
  repeat (first | ((first | (with_reducible (first | refine Qa fun K E hK hE => ?_ | refine FunW.ret (FunW.call c1) ?_))); simp -implicitDefEqProofs only [Qg, Qf, OpW, QI, aop, undef, AS.ev, Qu, AV.QnA, ↓reduceIte, Nat.reduceAdd, Nat.reduceLT, Nat.reduceLeDiff, Nat.reduceEqDiff, Qq, QD, QE, QN, QJ, QM, XG, XV, Nat.reducePow, zi5, QkI, Qiu, Qmo, QeP, QO, f2, f3, f5, f7, bw1, Xw, hm, hs', Nat.mul_one]) | (with_reducible refine Qj ?_) | ((with_reducible refine hK _ ?_); clear hK))
  simp -implicitDefEqProofs only [QaC, ↓reduceIte, Qom, QC, Ql, Qr, Qoq]
  exact .inr ⟨rfl, rfl⟩
theorem unPB : Tryz.prog.underlying 166 = some (.pointer 5) := by kernel_rfl
theorem szB : Tryz.prog.cellsOf 5 = 1 := by kernel_rfl
theorem Qim {ty : TypeId} {i j : Nat} (hij : i ≠ j) (tx : ByteArray) (h0 : 0 < tx.size) (hs : tx.size ≤ 140737488355328) : Chg2 Tryz.prog 107 [.ptr i 0 0] i (bw ty i j true tx) j (.grow 5 1 tx.size) (.v (.string tx)) (bw ty i j true tx) .gone := by
  intro h hi hj
  have f1 := fun x y => Yk h i x j y
  have f2 := fun x y => Yo (h := h) hi hij x y
  have f5 := fun x y z => Qco (h := h) (i := i) (j := j) x y z
  have f7 := fun x y => Qac (h := h) (i := i) hj x y
  have hs' : tx.size ≤ 9223372036854775807 := by omega
  have g1 := Qcd h0 j
  have g2 := fun x => Qca (P := Tryz.prog) unPB szB (T := tx) (f7 x (.grow 5 1 tx.size)) h0 hs'
  refine Qe Tryz.func107 rfl Tryz.call107 Tryz.ntmps107 (congrArg Array.toList Tryz.results107) (by simp) ?_
  rw [bw1]
  repeat (first | ((first | (with_reducible refine Qa fun K E hK hE => ?_) | (refine Qy (id := 1) [(0, 0), (1, 0), (2, 0), (3, 0), (4, 0), (5, 0), (6, 0), (7, 0), (8, 0), (9, 0), (10, 2), (11, 0)] mixed (by kernel_rfl) fun K hK => ?_)); simp -implicitDefEqProofs only [Qg, Qf, OpW, aop, undef, AS.ev, Qu, ↓reduceIte, Nat.reduceLT, Nat.reduceEqDiff, Qq, QD, QE, aLen, goInt, QkI, Qng, QeP, QO, f2, f5, g1, g2, Xw]) | (with_reducible refine Qj ?_) | ((with_reducible refine hK _ ?_); clear hK))
  simp only [QC, Ql, Qr, upd, ↓reduceIte, Qom, Qoq]
  exact .inr ⟨rfl, rfl⟩
end Go.Proofs.YtniljpjjnmkoaaaGreatDoor.Ab
set_option maxRecDepth 4000
namespace Go.Proofs.YtniljpjjnmkoaaaGreatDoor.Ab
open Go.Proofs
abbrev mi : ByteArray := { data := #[45] }
def decZ (n : Int) : ByteArray := if n < 0 then mi ++ decN n.natAbs else decN n.toNat
theorem QiB (n : Int) : (⟨(Lib.itoa n).toArray⟩ : ByteArray) = decZ n := by
  unfold decZ Lib.itoa
  split
  · apply ByteArray.ext; rfl
  · rfl
theorem Qjq (n : Int) (h1 : -9223372036854775808 ≤ n) (h2 : n ≤ 9223372036854775807) : (decZ n).size ≤ 20 := by
  unfold decZ
  split
  · rw [QA]
    have := Qbf (n := n.natAbs) (by omega)
    have : mi.size = 1 := rfl
    omega
  · have := Qbf (n := n.toNat) (by omega)
    omega
theorem Qlg (n : Int) : 0 < (decZ n).size := by
  unfold decZ
  split
  · rw [QA]
    have : mi.size = 1 := rfl
    omega
  · exact QkP _
theorem Qii (n : Int) (h0 : -9223372036854775808 ≤ n) (hn : n ≤ 9223372036854775807) (h : AH) (hG : Xm h) : Q9 Tryz.prog 99 [.i n] h fun o h' => o = .ret (.v (.string (decZ n))) ∧ h' = h :=
  Qdb (vs := [.int .i64 n]) Tryz.call99 fun c hst hh => by
    have hv : c.w.var? Tryz.prog "internal/strconv.uint64pow10" = some tabC := HasG.var hst (hh ▸ hG) (by kernel_rfl)
    refine (Tryz.strconv_Itoa n h0 hn c.w hv).mono ?_
    rintro e w' ⟨rfl, k, os, rfl⟩
    refine ⟨_, rfl, ?_, fun c' => by rw [← QiB]; exact .v _⟩
    exact Qa7 c.w k os
theorem QgU (n : Nat) : 0 < n → n ≤ 9223372036854775807 → Pure Tryz.prog 108 [.i (-(n : Int))] (.v (.string (mi ++ decN n))) := by
  induction n using Nat.strongRecOn with
  | _ n ih =>
    intro hp hn h
    have m0 : (-(n : Int)) < 0 := by omega
    have hq := fun xo yo => Qlx Tryz.prog 3 xo yo .i64 (-(n : Int)) 10 (by decide)
    have eq0 : (-(n : Int)).tdiv 10 = -((n / 10 : Nat) : Int) := by rw [Int.neg_tdiv]; rfl
    have eq : IntKind.i64.wrap ((-(n : Int)).tdiv 10) = -((n / 10 : Nat) : Int) := by rw [eq0, Xj (by omega)]
    have e1 : IntKind.i64.wrap (-((n / 10 : Nat) : Int) * 10) = -((n / 10 : Nat) : Int) * 10 := Xj (by omega)
    have e2 : IntKind.i64.wrap (48 + -((n / 10 : Nat) : Int) * 10) = 48 + -((n / 10 : Nat) : Int) * 10 := Xj (by omega)
    have e3 : IntKind.i64.wrap (48 + -((n / 10 : Nat) : Int) * 10 - -(n : Int)) = ((48 + n % 10 : Nat) : Int) := by rw [Xj (by omega)]; omega
    have hc := Qmv ((48 + n % 10 : Nat) : Int) (by omega) (by omega)
    have hby : QeI Tryz.prog 134 9 = true := by kernel_rfl
    by_cases hs : n < 10
    · have m1 : -(n : Int) > -10 := by omega
      have e0 : n % 10 = n := Nat.mod_eq_of_lt hs
      rw [e0] at e3 hc
      have hsa := fun xo yo => Xe Tryz.prog 9 xo yo mi (strOfNums [((48 + n : Nat) : Int)]) (by rw [strOfNums_size]; simp; decide)
      refine Qe Tryz.func108 rfl Tryz.call108 Tryz.ntmps108 (congrArg Array.toList Tryz.results108) (by simp) ?_
      repeat (first | (((with_reducible refine Qa fun K E hK hE => ?_)); simp -implicitDefEqProofs only [Qg, Qf, OpW, aop, undef, AS.ev, Qu, AV.QnA, ↓reduceIte, Nat.reduceLT, Nat.reduceLeDiff, Nat.reduceEqDiff, Nat.reduceMul, aBin, QM, XV, Nat.reducePow, zi5, Qiu, m0, m1, hq, eq, e1, e2, e3, hc, Qaz, hby, intsOf, hsa]) | (with_reducible (first | refine Qd fun K hK => ?_ | refine Qj ?_ | refine Qp ?_)) | ((with_reducible refine hK _ ?_); clear hK) | (refine Qh rfl ?_; simp only [↓reduceIte]))
      simp only [QC, Ql, Qr, upd, ↓reduceIte, Qom, Qoq]; first | refine Qc (htake _ _) (.keep (.v _)) ⟨by rw [Qal hs], rfl⟩ | refine Qc List.take_length (.keep (.v _)) ⟨by rw [Qal hs], rfl⟩
    · have m1 : ¬ -(n : Int) > -10 := by omega
      have c := ih (n / 10) (by omega) (by omega) (by omega)
      have hsz : (mi ++ decN (n / 10)).size ≤ 20 := by rw [QA]; have := Qbf (n := n / 10) (by omega); have : mi.size = 1 := rfl; omega
      have hsa := fun xo yo => Xe Tryz.prog 9 xo yo (mi ++ decN (n / 10)) (strOfNums [((48 + n % 10 : Nat) : Int)]) (by rw [strOfNums_size]; simp only [Qot, Qou]; omega)
      refine Qe Tryz.func108 rfl Tryz.call108 Tryz.ntmps108 (congrArg Array.toList Tryz.results108) (by simp) ?_
      repeat (first | ((first | (with_reducible (first | refine Qa fun K E hK hE => ?_ | refine Qk c ?_))); simp -implicitDefEqProofs only [Qg, Qf, OpW, QI, aop, undef, AS.ev, Qu, AV.QnA, ↓reduceIte, Nat.reduceLT, Nat.reduceLeDiff, Nat.reduceEqDiff, Nat.reduceMul, aBin, QM, XV, Nat.reducePow, zi5, Qiu, m0, m1, hq, eq, e1, e2, e3, hc, Qaz, hby, intsOf, hsa]) | (with_reducible (first | refine Qd fun K hK => ?_ | refine Qj ?_ | refine Qn ?_ | refine Qb ?_ | refine Qp ?_)) | ((with_reducible refine hK _ ?_); clear hK) | (refine Qh rfl ?_; simp only [↓reduceIte, Qok]))
      simp only [QC, Ql, Qr, upd, ↓reduceIte, Qom, Qoq]; first | refine Qc (htake _ _) (.keep (.v _)) ⟨by rw [Qcu hs, ByteArray.append_assoc], rfl⟩ | refine Qc List.take_length (.keep (.v _)) ⟨by rw [Qcu hs, ByteArray.append_assoc], rfl⟩
theorem QkD (n : Int) (h0 : -9223372036854775807 ≤ n) (hn : n ≤ 9223372036854775807) : Pure Tryz.prog 108 [.i n] (.v (.string (decZ n))) := by
  by_cases h : n < 0
  · have e : n = -(n.natAbs : Int) := by omega
    have c := QgU n.natAbs (by omega) (by omega)
    rw [← e] at c
    rw [decZ, if_pos h]
    exact c
  · have e : n = (n.toNat : Int) := by omega
    have c := QbW n.toNat (by omega)
    rw [← e] at c
    rw [decZ, if_neg h]
    exact c
def ofB (s : ByteArray) : Int := if (s.toList == ({ data := #[43] } : ByteArray).toList) || (s.toList == ({ data := #[45] } : ByteArray).toList) then 1 else if (s.toList == ({ data := #[42] } : ByteArray).toList) || (s.toList == ({ data := #[47] } : ByteArray).toList) || (s.toList == ({ data := #[37] } : ByteArray).toList) then 2 else 0
def T.oper (t : T) : Int := if t.kind ≠ 2 ∨ t.args.length ≠ 2 then 0 else ofB t.name
theorem QhI (s : ByteArray) : Pure Tryz.prog 151 [.v (.string s)] (.i (ofB s)) := by
  intro h
  cases b1 : s.toList == ({ data := #[43] } : ByteArray).toList
  · cases b2 : s.toList == ({ data := #[45] } : ByteArray).toList
    · cases b3 : s.toList == ({ data := #[42] } : ByteArray).toList
      · cases b4 : s.toList == ({ data := #[47] } : ByteArray).toList
        · cases b5 : s.toList == ({ data := #[37] } : ByteArray).toList
          · have e : ofB s = 0 := by rw [ofB, b1, b2, b3, b4, b5]; rfl
            refine Qe Tryz.func151 rfl Tryz.call151 Tryz.ntmps151 (congrArg Array.toList Tryz.results151) (by simp) ?_
            repeat (first | ((first | (with_reducible (first | refine Qa fun K E hK hE => ?_ | refine Qm fun K E hK hE => ?_))); simp -implicitDefEqProofs only [Qg, Qf, OpW, aop, undef, AS.ev, Qu, ↓reduceIte, Nat.reduceLT, Nat.reduceEqDiff, aBin, b1, b2, b3, b4, b5]) | (with_reducible (first | refine Qd fun K hK => ?_ | refine Qi ?_ | refine Qj ?_ | refine Qn ?_ | refine Qb ?_ | refine Qo ?_)) | ((with_reducible refine hK _ ?_); clear hK) | (refine Qh rfl ?_; simp only [↓reduceIte, Qok]))
            simp only [QC, Ql, Qr, upd, ↓reduceIte, Qom, Qoq]; first | refine Qc (htake _ _) (.keep (.v _)) ⟨by rw [e], rfl⟩ | refine Qc List.take_length (.keep (.v _)) ⟨by rw [e], rfl⟩
          · have e : ofB s = 2 := by rw [ofB, b1, b2, b3, b4, b5]; rfl
            refine Qe Tryz.func151 rfl Tryz.call151 Tryz.ntmps151 (congrArg Array.toList Tryz.results151) (by simp) ?_
            repeat (first | ((first | (with_reducible (first | refine Qa fun K E hK hE => ?_ | refine Qm fun K E hK hE => ?_))); simp -implicitDefEqProofs only [Qg, Qf, OpW, aop, undef, AS.ev, Qu, ↓reduceIte, Nat.reduceLT, Nat.reduceEqDiff, aBin, b1, b2, b3, b4, b5]) | (with_reducible (first | refine Qd fun K hK => ?_ | refine Qi ?_ | refine Qj ?_ | refine Qb ?_ | refine Qp ?_ | refine Qs ?_)) | ((with_reducible refine hK _ ?_); clear hK) | (refine Qh rfl ?_; simp only [↓reduceIte, Qok]))
            simp only [QC, Ql, Qr, upd, ↓reduceIte, Qom, Qoq]; first | refine Qc (htake _ _) (.keep (.v _)) ⟨by rw [e], rfl⟩ | refine Qc List.take_length (.keep (.v _)) ⟨by rw [e], rfl⟩
        · have e : ofB s = 2 := by rw [ofB, b1, b2, b3, b4]; rfl
          refine Qe Tryz.func151 rfl Tryz.call151 Tryz.ntmps151 (congrArg Array.toList Tryz.results151) (by simp) ?_
          repeat (first | ((first | (with_reducible (first | refine Qa fun K E hK hE => ?_ | refine Qm fun K E hK hE => ?_))); simp -implicitDefEqProofs only [Qg, Qf, OpW, aop, undef, AS.ev, Qu, ↓reduceIte, Nat.reduceLT, Nat.reduceEqDiff, aBin, b1, b2, b3, b4]) | (with_reducible (first | refine Qd fun K hK => ?_ | refine Qi ?_ | refine Qj ?_ | refine Qn ?_ | refine Qb ?_ | refine Qp ?_ | refine Qs ?_)) | ((with_reducible refine hK _ ?_); clear hK) | (refine Qh rfl ?_; simp only [↓reduceIte, Qok]))
          simp only [QC, Ql, Qr, upd, ↓reduceIte, Qom, Qoq]; first | refine Qc (htake _ _) (.keep (.v _)) ⟨by rw [e], rfl⟩ | refine Qc List.take_length (.keep (.v _)) ⟨by rw [e], rfl⟩
      · have e : ofB s = 2 := by rw [ofB, b1, b2, b3]; rfl
        refine Qe Tryz.func151 rfl Tryz.call151 Tryz.ntmps151 (congrArg Array.toList Tryz.results151) (by simp) ?_
        repeat (first | ((first | (with_reducible (first | refine Qa fun K E hK hE => ?_ | refine Qm fun K E hK hE => ?_))); simp -implicitDefEqProofs only [Qg, Qf, OpW, aop, undef, AS.ev, Qu, ↓reduceIte, Nat.reduceLT, Nat.reduceEqDiff, aBin, b1, b2, b3]) | (with_reducible (first | refine Qd fun K hK => ?_ | refine Qi ?_ | refine Qj ?_ | refine Qn ?_ | refine Qb ?_ | refine Qp ?_ | refine Qs ?_)) | ((with_reducible refine hK _ ?_); clear hK) | (refine Qh rfl ?_; simp only [↓reduceIte, Qok]))
        simp only [QC, Ql, Qr, upd, ↓reduceIte, Qom, Qoq]; first | refine Qc (htake _ _) (.keep (.v _)) ⟨by rw [e], rfl⟩ | refine Qc List.take_length (.keep (.v _)) ⟨by rw [e], rfl⟩
    · have e : ofB s = 1 := by rw [ofB, b1, b2]; rfl
      refine Qe Tryz.func151 rfl Tryz.call151 Tryz.ntmps151 (congrArg Array.toList Tryz.results151) (by simp) ?_
      repeat (first | ((first | (with_reducible (first | refine Qa fun K E hK hE => ?_ | refine Qm fun K E hK hE => ?_))); simp -implicitDefEqProofs only [Qg, Qf, OpW, aop, undef, AS.ev, Qu, ↓reduceIte, Nat.reduceLT, Nat.reduceEqDiff, aBin, b1, b2]) | (with_reducible (first | refine Qd fun K hK => ?_ | refine Qi ?_ | refine Qj ?_ | refine Qb ?_ | refine Qp ?_ | refine Qs ?_)) | ((with_reducible refine hK _ ?_); clear hK) | (refine Qh rfl ?_; simp only [↓reduceIte, Qok]))
      simp only [QC, Ql, Qr, upd, ↓reduceIte, Qom, Qoq]; first | refine Qc (htake _ _) (.keep (.v _)) ⟨by rw [e], rfl⟩ | refine Qc List.take_length (.keep (.v _)) ⟨by rw [e], rfl⟩
  · have e : ofB s = 1 := by rw [ofB, b1]; rfl
    refine Qe Tryz.func151 rfl Tryz.call151 Tryz.ntmps151 (congrArg Array.toList Tryz.results151) (by simp) ?_
    repeat (first | (((with_reducible refine Qa fun K E hK hE => ?_)); simp -implicitDefEqProofs only [Qg, Qf, OpW, aop, undef, AS.ev, Qu, ↓reduceIte, Nat.reduceLT, Nat.reduceEqDiff, aBin, b1]) | (with_reducible (first | refine Qd fun K hK => ?_ | refine Qi ?_ | refine Qj ?_ | refine Qn ?_ | refine Qb ?_ | refine Qp ?_ | refine Qs ?_)) | ((with_reducible refine hK _ ?_); clear hK) | (refine Qh rfl ?_; simp only [↓reduceIte]))
    simp only [QC, Ql, Qr, upd, ↓reduceIte, Qom, Qoq]; first | refine Qc (htake _ _) (.keep (.v _)) ⟨by rw [e], rfl⟩ | refine Qc List.take_length (.keep (.v _)) ⟨by rw [e], rfl⟩
theorem Qah (t : T) (hl : t.args.length ≤ maxLen) : Pure Tryz.prog 132 [t.av] (.i t.oper) := by
  intro h
  have c1 := QhI t.name
  have e1 : t.av = .agg [.i t.kind, .i t.int, .v (.string t.name), .sl 4 (avs t.args) none] := by cases t; rfl
  have m1 : ((t.args.length : Int) == 2) = decide (t.args.length = 2) := by
    rw [Bool.eq_iff_iff]; simp; omega
  by_cases hk : t.kind = 2
  · by_cases hn : t.args.length = 2
    · have e : t.oper = ofB t.name := by rw [T.oper, if_neg]; omega
      have m2 : ((t.args.length : Int) != 2) = false := by simp; omega
      refine Qe Tryz.func132 rfl Tryz.call132 Tryz.ntmps132 (congrArg Array.toList Tryz.results132) (by simp) ?_
      rw [e1]
      repeat (first | ((first | (with_reducible (first | refine Qa fun K E hK hE => ?_ | refine Qk c1 ?_))); simp -implicitDefEqProofs only [Qg, Qf, OpW, QI, aop, undef, AS.ev, Qu, AV.QnA, ↓reduceIte, Nat.reduceAdd, Nat.reduceLT, Nat.reduceEqDiff, Qq, QD, QE, aBin, aLen, goInt, ti3, ti9, ti29, un29, QV, Xc, Q7, hk, m2]) | (with_reducible (first | refine Qd fun K hK => ?_ | refine Qj ?_ | refine Qn ?_ | refine Qb ?_)) | ((with_reducible refine hK _ ?_); clear hK) | (refine Qh rfl ?_; simp only [↓reduceIte, Qok]))
      simp only [QC, Ql, Qr, upd, ↓reduceIte, Qom, Qoq]; first | refine Qc (htake _ _) (.keep (.v _)) ⟨by rw [e], rfl⟩ | refine Qc List.take_length (.keep (.v _)) ⟨by rw [e], rfl⟩
    · have e : t.oper = 0 := by rw [T.oper, if_pos (.inr hn)]
      have m2 : ((t.args.length : Int) != 2) = true := by simp; omega
      refine Qe Tryz.func132 rfl Tryz.call132 Tryz.ntmps132 (congrArg Array.toList Tryz.results132) (by simp) ?_
      rw [e1]
      repeat (first | (((with_reducible refine Qa fun K E hK hE => ?_)); simp -implicitDefEqProofs only [Qg, Qf, OpW, aop, undef, AS.ev, Qu, AV.QnA, ↓reduceIte, Nat.reduceAdd, Nat.reduceLT, Nat.reduceEqDiff, Qq, QD, QE, aBin, aLen, goInt, ti3, ti29, un29, QV, Q7, hk, m2]) | (with_reducible (first | refine Qd fun K hK => ?_ | refine Qj ?_ | refine Qp ?_)) | ((with_reducible refine hK _ ?_); clear hK) | (refine Qh rfl ?_; simp only [↓reduceIte]))
      simp only [QC, Ql, Qr, upd, ↓reduceIte, Qom, Qoq]; first | refine Qc (htake _ _) (.keep (.v _)) ⟨by rw [e], rfl⟩ | refine Qc List.take_length (.keep (.v _)) ⟨by rw [e], rfl⟩
  · have e : t.oper = 0 := by rw [T.oper, if_pos (.inl hk)]
    have m2 : (t.kind != 2) = true := by simpa using hk
    refine Qe Tryz.func132 rfl Tryz.call132 Tryz.ntmps132 (congrArg Array.toList Tryz.results132) (by simp) ?_
    rw [e1]
    repeat (first | (((with_reducible refine Qa fun K E hK hE => ?_)); simp -implicitDefEqProofs only [Qg, Qf, OpW, aop, undef, AS.ev, Qu, AV.QnA, ↓reduceIte, Nat.reduceAdd, Nat.reduceLT, Nat.reduceEqDiff, Qq, QD, QE, aBin, ti3, QV, m2]) | (with_reducible (first | refine Qd fun K hK => ?_ | refine Qj ?_ | refine Qp ?_)) | ((with_reducible refine hK _ ?_); clear hK) | (refine Qh rfl ?_; simp only [↓reduceIte]))
    simp only [QC, Ql, Qr, upd, ↓reduceIte, Qom, Qoq]; first | refine Qc (htake _ _) (.keep (.v _)) ⟨by rw [e], rfl⟩ | refine Qc List.take_length (.keep (.v _)) ⟨by rw [e], rfl⟩
end Go.Proofs.YtniljpjjnmkoaaaGreatDoor.Ab
namespace Go.Proofs.YtniljpjjnmkoaaaGreatDoor.Ab
abbrev DA := FuncId × List AV
def RelD (c : Cx) (d : DA) (x : Deferred) : Prop := ∃ caps, x.target = .fn (.func d.1) caps ∧ RelL c d.2 (x.args ++ caps)
theorem RelD.ev {c c' : Cx} (hs : St c) (h : Ev c c') {d : DA} {x : Deferred} (hr : RelD c d x) : RelD c' d x :=
  let ⟨caps, e, r⟩ := hr; ⟨caps, e, r.ev hs h⟩
inductive Ent where
  | mark (D : Nat)
  | call (d : DA) (x : Deferred)
def Ent.dfr : Ent → Deferred
  | .mark D => QfW D
  | .call _ x => x
def Ent.da : Ent → Option DA
  | .mark _ => none
  | .call d _ => some d
def Ent.mk? : Ent → Option Nat
  | .mark D => some D
  | .call _ _ => none
def Ent.ok (c : Cx) (lo : Nat) : Ent → Prop
  | .mark D => lo ≤ D ∧ c.w.heap[D]? = some (.deferred (some [])) ∧ ¬ c.owns D
  | .call d x => RelD c d x
theorem Ent.ok.ev {c c' : Cx} (hs : St c) (h : Ev c c') {lo : Nat} {e : Ent} (hk : e.ok c lo) : e.ok c' lo := by
  cases e with
  | mark D =>
    obtain ⟨h1, h2, h3⟩ := hk
    have hlt := (Array.getElem?_eq_some_iff.1 h2).1
    exact ⟨h1, (h.frame D hlt h3).trans h2, fun ho => h3 (h.owns hlt ho)⟩
  | call d x => exact RelD.ev hs h hk
def DefsOk (c : Cx) (lo : Nat) (ds : List DA) (l : List Deferred) : Prop :=
  ∃ es : List Ent, l = es.map Ent.dfr ∧ ds = es.filterMap Ent.da ∧ (es.filterMap Ent.mk?).Nodup ∧ ∀ e ∈ es, e.ok c lo
theorem DefsOk.ev {c c' : Cx} (hs : St c) (h : Ev c c') {lo : Nat} {ds : List DA} {l : List Deferred} (hd : DefsOk c lo ds l) : DefsOk c' lo ds l :=
  let ⟨es, h1, h2, h3, h4⟩ := hd; ⟨es, h1, h2, h3, fun e he => (h4 e he).ev hs h⟩
theorem QjX (Ds : List Nat) : (Ds.map Ent.mark).map Ent.dfr = Ds.map QfW := by rw [List.map_map]; rfl
theorem Qls (Ds : List Nat) : (Ds.map Ent.mark).filterMap Ent.da = [] := by
  induction Ds with
  | nil => rfl
  | cons D Ds ih => rw [List.map_cons, List.filterMap_cons, ih]; rfl
theorem Qkj (Ds : List Nat) : (Ds.map Ent.mark).filterMap Ent.mk? = Ds := by
  induction Ds with
  | nil => rfl
  | cons D Ds ih => rw [List.map_cons, List.filterMap_cons, ih]; rfl
theorem DefsOk.marks {c c' : Cx} (hs : St c) (h : Ev c c') {lo : Nat} {ds : List DA} {l l' : List Deferred} (hlo : lo ≤ c.w.heap.size) (hd : DefsOk c lo ds l) (hd' : DefOk c' ⟨c.w.heap.size, l⟩ l') : DefsOk c' lo ds l' := by
  obtain ⟨Ds, f1, f2, f3⟩ := hd'
  obtain ⟨es, e1, e2, e3, e4⟩ := hd
  refine ⟨Ds.map Ent.mark ++ es, ?_, ?_, ?_, ?_⟩
  · rw [f1, List.map_append, QjX, e1]
  · rw [List.filterMap_append, Qls, List.nil_append, e2]
  · rw [List.filterMap_append, Qkj, List.nodup_append]
    refine ⟨f2, e3, fun a ha b hb hab => ?_⟩
    subst hab
    have g1 := (f3 a ha).1
    simp only [List.mem_filterMap] at hb
    obtain ⟨e, he, hm⟩ := hb
    cases e with
    | call d x => cases hm
    | mark D =>
      simp only [Ent.mk?, Qom] at hm
      subst hm
      have := (Array.getElem?_eq_some_iff.1 (e4 _ he).2.1).1
      simp only at g1
      omega
  · intro e he
    rcases List.mem_append.1 he with he | he
    · obtain ⟨D, hD, rfl⟩ := List.mem_map.1 he
      obtain ⟨g1, g2, g3⟩ := f3 D hD
      exact ⟨Nat.le_trans hlo g1, g2, g3⟩
    · exact (e4 e he).ev hs h
structure SRd (N lo : Nat) (c : Cx) (s : AS) (a : Act) (ds : List DA) : Prop where
  h : c.h = s.h
  size : a.tmps.size = N
  above : lo ≤ c.w.heap.size
  defs : DefsOk c lo ds a.defers
  tm : ∀ t, Rel c (s.tm t) (a.tmps.getD t undef)
theorem SRd.sr {N lo : Nat} {c : Cx} {s : AS} {a : Act} {ds : List DA} (h : SRd N lo c s a ds) {F : Fence} (hro : F.round = none) : SR N (⟨c.w.heap.size, a.defers⟩, F) c s a :=
  ⟨h.h, h.size, Nat.le_refl _, ⟨[], rfl, List.nodup_nil, fun D hD => by cases hD⟩, fun l hl => (by rw [hro] at hl; cases hl), h.tm⟩
theorem SRd.Qn1 {N lo : Nat} {c c' : Cx} {s s' : AS} {a a' : Act} {ds : List DA} {F : Fence} (hs : St c) (h : SRd N lo c s a ds) (hev : Ev c c') (hr : SR N (⟨c.w.heap.size, a.defers⟩, F) c' s' a') : SRd N lo c' s' a' ds :=
  ⟨hr.h, hr.size, Nat.le_trans h.above hev.size, h.defs.marks hs hev h.above hr.defers, hr.tm⟩
def DefW (P : Program) (N : Nat) (code : Code) (Q : AExit → AS → List DA → Prop) (s : AS) (ds : List DA) : Prop :=
  ∀ (F : Fence) (n lo : Nat) (c : Cx) (a : Act), WF F → F.round = none → St c → SRd N lo c s a ds →
    ∀ R : Exit → Act → World → Prop, (∀ e s' ds' c' a' e', Q e s' ds' → Ev c c' → St c' → SRd N lo c' s' a' ds' → ExC c' e e' → R e' a' c'.w) → code.wpIn F n P R a c.w
section rules
variable {P : Program} {N : Nat} {Q : AExit → AS → List DA → Prop} {s : AS} {ds : List DA}
theorem Qa4 {code : Code} (H : XH P N code (fun e s' => Q e s' ds) s) : DefW P N code Q s ds := by
  intro F n lo c a hF hro hst hr R hR
  refine H F n ⟨c.w.heap.size, a.defers⟩ c a hF hst (hr.sr hro) R fun e s' c' a' e' hQ hev hst' hsr hex => ?_
  exact hR e s' ds c' a' e' hQ hev hst' (hr.Qn1 hst hev hsr) hex
def AExit.Qof (K : AS → List DA → Prop) (Q : AExit → AS → List DA → Prop) : AExit → AS → List DA → Prop
  | .normal, s, ds => K s ds
  | e, s, ds => Q e s ds
theorem QeV {x y : Code} (h : DefW P N x (AExit.Qof (fun s ds => DefW P N y Q s ds) Q) s ds) : DefW P N (.seq x y) Q s ds := by
  intro F n lo c a hF hro hs hr R hR
  refine wpIn_seq (h F n lo c a hF hro hs hr _ ?_)
  intro e s' ds' c' a' e' hQ hev hst hsr hex
  cases e with
  | normal =>
    cases hex
    exact hQ F n lo c' a' hF hro hst hsr R fun e s2 ds2 c2 a2 e2 hQ2 hev2 hst2 hsr2 hex2 => hR e s2 ds2 c2 a2 e2 hQ2 (Ev.trans hs hev hev2) hst2 hsr2 hex2
  | exit id => cases hex; exact hR _ s' ds' c' a' _ hQ hev hst hsr rfl
  | ret => cases hex; exact hR _ s' ds' c' a' _ hQ hev hst hsr rfl
  | panic av => obtain ⟨x, rfl, hx⟩ := hex; exact hR _ s' ds' c' a' _ hQ hev hst hsr ⟨x, rfl, hx⟩
theorem QiM {o : Operand} {x y : Code} {t : Bool} (ho : s.ev o = .v (.bool t)) (h : DefW P N (if t then x else y) Q s ds) : DefW P N (.cond o x y) Q s ds := by
  intro F n lo c a hF hro hs hr R hR
  have he := (hr.sr hro).eval o
  rw [ho] at he
  have hx : a.eval o = .bool t := by
    generalize a.eval o = u at he
    cases he; rfl
  exact wpIn_cond hx (h F n lo c a hF hro hs hr R hR)
theorem QgJ {id : Nat} {ops : Array Oper} (i : Nat) {o : Oper} {cl : Call} {f : Operand} (ho : ops.toList[i]? = some o) (hop : o.op = .defer cl) (hcl : cl.callee = .value f)
    (H : OpsW P N ops (ops.toList.take i) (fun s1 => Qf ops s1.tm o = some true ∧ ∃ g first cap, s1.ev f = .fn (.func g) first cap ∧
      OpsW P N ops (ops.toList.drop (i + 1)) (fun s2 => Q .normal s2 ((g, first ++ cl.args.toList.map s1.ev ++ cap) :: ds)) (fun r s2 => Q (.panic r) s2 ((g, first ++ cl.args.toList.map s1.ev ++ cap) :: ds)) (AS.put N s1 o.dst (.v undef)))
      (fun r s1 => Q (.panic r) s1 ds) s) : DefW P N (.region id ops false) Q s ds := by
  intro F n lo c a hF hro hst hr R hR
  refine wpIn_region ?_
  have hlt := QG ho
  have hi : (ops.toList.take i).length = i := by rw [List.length_take]; omega
  have hrange : List.range ops.size = List.range' 0 (ops.toList.take i).length ++ (i :: (List.range' (i + 1) (ops.toList.drop (i + 1)).length ++ [])) := by
    rw [hi, List.append_nil, List.length_drop, List.range_eq_range', ← Array.length_toList]
    have : ops.toList.length = i + (1 + (ops.toList.length - (i + 1))) := by omega
    conv => lhs; rw [this]
    rw [← List.range'_append_1, Nat.zero_add, ← List.range'_append_1]
    rfl
  have hget : ∀ j, (ops.toList.drop (i + 1))[j]? = ops[i + 1 + j]? := fun j => by rw [List.getElem?_drop]; simp
  rw [hrange]
  refine QeS hF (ops.toList.take i) 0 s c a (fun j hj => by rw [List.getElem?_take, if_pos (by omega)]; simp) H hst (hr.sr hro) ?_ ?_
  · intro s1 c1 a1 h1 h2 h3 h4
    have h0 : ops[i]? = some o := by rw [← ho]; simp
    obtain ⟨hw, g, first, cap, hf, hpost⟩ := h1
    simp only [wpOpsIn, h0]
    rw [XJ h4 hw]
    simp only [if_true]
    have hr1 := hr.Qn1 hst h2 h4
    have hfv := h4.eval f
    rw [hf] at hfv
    obtain ⟨vs, ws, hae, hv1, hv2⟩ : ∃ vs ws, a1.eval f = .func (.func g) vs ws ∧ RelL c1 first vs ∧ RelL c1 cap ws := by
      generalize a1.eval f = u at hfv
      cases hfv with
      | fn _ _ _ vs ws e1 e2 g1 g2 => exact ⟨vs, ws, rfl, ⟨e1, g1⟩, ⟨e2, g2⟩⟩
    have hargs : RelL c1 (cl.args.toList.map s1.ev) (cl.args.map a1.eval) := by
      refine ⟨by simp, fun j x u hx hu => ?_⟩
      rw [List.getElem?_map] at hx
      rw [Array.getElem?_map] at hu
      cases hj : cl.args[j]? with
      | none => simp [hj] at hu
      | some q =>
        simp only [hj, Qoi, Qom] at hu
        simp only [Array.getElem?_toList, hj, Qoi, Qom] at hx
        subst hx; subst hu
        exact h4.eval q
    have hD : RelD c1 (g, first ++ cl.args.toList.map s1.ev ++ cap) ⟨.fn (.func g) ws, vs ++ cl.args.map a1.eval⟩ := ⟨ws, rfl, RelL.append (RelL.append hv1 hargs) hv2⟩
    have hrun : (execOp a1.eval o).run P c1.w = .ok (.defer ⟨.fn (.func g) ws, vs ++ cl.args.map a1.eval⟩) c1.w := by
      simp only [execOp, hop, resolve, hcl, hae, Deferred.ofValue, Sem.run_bind, Sem.run_pure, Result.andThen_ok]
    refine ⟨fun f _ => hF.fn f, ?_⟩
    rw [hro, Oper.semAt_none, hrun, Oper.uponIn_defer]
    have hput := h4.put h3 (Ev.refl c1) o.dst (.v undef)
    rw [h4.h] at hput
    have hd2 : DefsOk c1 lo ((g, first ++ cl.args.toList.map s1.ev ++ cap) :: ds) (⟨.fn (.func g) ws, vs ++ cl.args.map a1.eval⟩ :: a1.defers) := by
      obtain ⟨es, e1, e2, e3, e4⟩ := hr1.defs
      refine ⟨.call _ ⟨.fn (.func g) ws, vs ++ cl.args.map a1.eval⟩ :: es, by rw [e1]; rfl, by rw [e2]; rfl, e3, fun e he => ?_⟩
      rcases List.mem_cons.1 he with rfl | he
      · exact hD
      · exact e4 e he
    have hdf : ((({ a1 with defers := ⟨.fn (.func g) ws, vs ++ cl.args.map a1.eval⟩ :: a1.defers } : Act).put o.dst undef)).defers = ⟨.fn (.func g) ws, vs ++ cl.args.map a1.eval⟩ :: a1.defers := by
      cases o.dst <;> rfl
    have htm : ((({ a1 with defers := ⟨.fn (.func g) ws, vs ++ cl.args.map a1.eval⟩ :: a1.defers } : Act).put o.dst undef)).tmps = (a1.put o.dst undef).tmps := by
      cases o.dst <;> rfl
    have hr2 : SRd N lo c1 (AS.put N s1 o.dst (.v undef)) (({ a1 with defers := ⟨.fn (.func g) ws, vs ++ cl.args.map a1.eval⟩ :: a1.defers } : Act).put o.dst undef) ((g, first ++ cl.args.toList.map s1.ev ++ cap) :: ds) :=
      ⟨hput.h, by rw [htm]; exact hput.size, hr1.above, by rw [hdf]; exact hd2, fun t => by rw [htm]; exact hput.tm t⟩
    refine QeS hF _ (i + 1) _ c1 _ (fun j _ => hget j) hpost h3 (hr2.sr hro) ?_ ?_
    · intro s' c' a' hQ k1 k2 k3
      simp only [wpOpsIn]
      exact hR _ s' _ c' a' _ hQ (Ev.trans hst h2 k1) k2 (hr2.Qn1 h3 k1 k3) rfl
    · intro r s' c' a' x hQ k1 k2 k3 hx
      exact hR _ s' _ c' a' _ hQ (Ev.trans hst h2 k1) k2 (hr2.Qn1 h3 k1 k3) ⟨x, rfl, hx⟩
  · intro r s' c' a' x hQ h1 h2 h3 hx
    exact hR _ s' ds c' a' _ hQ h1 h2 (hr.Qn1 hst h1 h3) ⟨x, rfl, hx⟩
end rules
inductive AMode where
  | ret
  | pan (v : AV) (recovered : Bool)
def MdC (c : Cx) : AMode → FrameMode → Prop
  | .ret, u => u = .returning
  | .pan v b, u => ∃ x, u = .panicking [{ v := x, recovered := b }] ∧ Rel c v x
theorem MdC.ev {c c' : Cx} (hs : St c) (h : Ev c c') {m : AMode} {u : FrameMode} (hm : MdC c m u) : MdC c' m u := by
  cases m with
  | ret => exact hm
  | pan v b => obtain ⟨x, e, r⟩ := hm; exact ⟨x, e, r.ev hs h⟩
theorem MdC.run {c : Cx} {m : AMode} {u : FrameMode} (hm : MdC c m u) : u ≠ .run := by
  cases m with
  | ret => rw [show u = .returning from hm]; simp
  | pan v b => obtain ⟨x, e, r⟩ := hm; rw [e]; simp
def AMode.settle : AMode → AMode
  | .pan _ true => .ret
  | m => m
theorem MdC.settle {c : Cx} {m : AMode} {u : FrameMode} (hm : MdC c m u) : MdC c m.settle (Go.settle u) := by
  cases m with
  | ret => rw [show u = .returning from hm]; rfl
  | pan v b =>
    obtain ⟨x, rfl, r⟩ := hm
    cases b with
    | true => rfl
    | false => exact ⟨x, rfl, r⟩
def Qbk (P : Program) (f : FuncId) (args : List AV) (h : AH) (m : AMode) (Q : AMode → AH → Prop) : Prop :=
  (∀ vals w, (callFunc f vals).run P w = .ok (.enter f vals) w) ∧
  ∀ (F : Fence) (n : Nat) (c : Cx) (vals : Array Value) (u : FrameMode), WF F → F.round = none → St c → c.h = h → RelL c args vals → MdC c m u →
    CallsDIn F n P f vals u c.w fun e u' w' => ∃ x m' c', e = .returned x ∧ Q m' c'.h ∧ Ev c c' ∧ St c' ∧ c'.w = w' ∧ MdC c' m' u'
def Qgx (P : Program) (rs : List ResultVar) (h : AH) (Q : AOut → AH → Prop) : List DA → AMode → AS → Prop
  | [], .ret, s => QC P rs h Q .ret s
  | [], .pan v _, s => QC P rs h Q (.panic v) s
  | d :: ds, m, s => Qbk P d.1 d.2 s.h m fun m' h' => Qgx P rs h Q ds m'.settle ⟨s.tm, h'⟩
structure Out (N : Nat) (c : Cx) (s : AS) (tmps : Array Value) : Prop where
  h : c.h = s.h
  size : tmps.size = N
  tm : ∀ t, Rel c (s.tm t) (tmps.getD t undef)
theorem Qam {P : Program} {F : Fence} (hF : WF F) (hro : F.round = none) {n : Nat} {fn : Func} {tmps : Array Value} {rs : List ResultVar} (hrs : fn.results.toList = rs) {Q : AOut → AH → Prop} {c0 : Cx} (hs0 : St c0) :
    ∀ (es : List Ent) (c : Cx) (s : AS) (m : AMode) (u : FrameMode), Ev c0 c → St c → Out fn.ntmps c s tmps → (es.filterMap Ent.mk?).Nodup → (∀ e ∈ es, e.ok c c0.w.heap.size) → MdC c m u → (∀ v, m ≠ .pan v true) →
      Qgx P rs c0.h Q (es.filterMap Ent.da) m s →
      LeavesInM F n P fn tmps (fun e w' => ∃ o c', Q o c'.h ∧ Ev c0 c' ∧ St c' ∧ c'.w = w' ∧ EndC c' o e) (es.map Ent.dfr) u c.w
  | [], c, s, m, u, hev, hst, hout, _, _, hm, hnr, H => by
    have hsr : SR fn.ntmps (⟨0, []⟩, F) c s { tmps := tmps, defers := [] } := ⟨hout.h, hout.size, Nat.zero_le _, ⟨[], rfl, List.nodup_nil, fun D h => by cases h⟩, fun l hl => (by rw [hro] at hl; cases hl), hout.tm⟩
    cases m with
    | ret =>
      rw [show u = .returning from hm]
      obtain ⟨r, hres, hl⟩ := (show QC P rs c0.h Q .ret s from H)
      subst hrs
      obtain ⟨x, hrun, hx⟩ := Zo hst hsr hres
      rw [← hout.h] at hl
      obtain ⟨c3, r', h1, h2, h3, h4, h5⟩ := Ym hs0 hst hev hx hl
      exact ⟨x, hrun, .ret r', c3, h1, h2, h3, h4, x, rfl, h5⟩
    | pan v b =>
      obtain ⟨x, rfl, hx⟩ := hm
      have hl : Leaves c0.h s.h v fun r h' => Q (.panic r) h' := H
      rw [← hout.h] at hl
      obtain ⟨c3, r', h1, h2, h3, h4, h5⟩ := Ym hs0 hst hev hx hl
      cases b with
      | true => exact absurd rfl (hnr v)
      | false => exact ⟨.panic r', c3, h1, h2, h3, h4, x, rfl, h5⟩
  | .mark D :: es, c, s, m, u, hev, hst, hout, hnd, hok, hm, hnr, H => by
    obtain ⟨hD1, hD2, hD3⟩ := hok (.mark D) (by simp)
    simp only [Qov, LeavesInM]
    refine ⟨hm.run, .inl ⟨D, _, rfl, Yr hD2, ?_⟩⟩
    have hnd' := List.nodup_cons.1 (show (D :: es.filterMap Ent.mk?).Nodup from hnd)
    have hold : ∀ k, k ≠ D → ({ c.w with heap := c.w.heap.setIfInBounds D (.deferred none) } : World).heap[k]? = c.w.heap[k]? := fun k hk => by
      show (c.w.heap.setIfInBounds D _)[k]? = _
      rw [Array.getElem?_setIfInBounds_ne (fun e => hk e.symm)]
    have hsz : ({ c.w with heap := c.w.heap.setIfInBounds D (.deferred none) } : World).heap.size = c.w.heap.size := by simp
    have hidle : ∀ k, ({ c.w with heap := c.w.heap.setIfInBounds D (.deferred none) } : World).heap[k]? = c.w.heap[k]? ∨ (c0.w.heap.size ≤ k ∧ ¬ c.owns k ∧ ∃ o, c.w.heap[k]? = some (.deferred o)) := fun k => by
      by_cases hk : k = D
      · subst hk; exact .inr ⟨hD1, hD3, _, hD2⟩
      · exact .inl (hold k hk)
    have hcells : ∀ (k : Nat) cs t fr, c.w.heap[k]? = some (Obj.cells cs t fr) → ({ c.w with heap := c.w.heap.setIfInBounds D (.deferred none) } : World).heap[k]? = c.w.heap[k]? := fun k cs t fr hk => by
      rcases hidle k with h | ⟨_, _, o, h⟩
      · exact h
      · rw [hk] at h; cases h
    have hst2 := hst.idle hsz fun k o hk => by
      rcases hidle k with h | ⟨_, _, d, h⟩
      · exact .inl (h.trans hk)
      · rw [hk] at h; cases h; exact .inr ⟨d, rfl⟩
    have hrel : ∀ a x, Rel c a x → Rel (c.to { c.w with heap := c.w.heap.setIfInBounds D (.deferred none) }) a x := fun a x hax => hax.idle hsz hcells
    refine Qam hF hro hrs hs0 es (c.to _) s m u (Ev.idle hst hev rfl rfl rfl hsz hidle) hst2 ⟨hout.h, hout.size, fun t => hrel _ _ (hout.tm t)⟩ hnd'.2 (fun e he => ?_) ?_ hnr H
    · have := hok e (by simp [he])
      cases e with
      | mark D' =>
        obtain ⟨g1, g2, g3⟩ := this
        have hne : D' ≠ D := fun h => hnd'.1 (by subst h; exact List.mem_filterMap.2 ⟨_, he, rfl⟩)
        exact ⟨g1, (hold D' hne).trans g2, g3⟩
      | call d x =>
        obtain ⟨caps, e, r⟩ := this
        exact ⟨caps, e, r.1, fun j a u h1 h2 => hrel _ _ (r.2 j a u h1 h2)⟩
    · cases m with
      | ret => exact hm
      | pan v b => obtain ⟨x, e, r⟩ := hm; exact ⟨x, e, hrel _ _ r⟩
  | .call d x :: es, c, s, m, u, hev, hst, hout, hnd, hok, hm, hnr, H => by
    obtain ⟨caps, htar, hargs⟩ := hok (.call d x) (by simp)
    obtain ⟨hcall, hbody⟩ := (show Qbk P d.1 d.2 s.h m fun m' h' => Qgx P rs c0.h Q (es.filterMap Ent.da) m'.settle ⟨s.tm, h'⟩ from H)
    simp only [Qov, LeavesInM, Ent.dfr]
    refine ⟨hm.run, .inr ⟨fun hd => by simp [hF.depth] at hd, _, _, d.1, x.args ++ caps, htar, by rw [htar]; simp only [invoke, hcall], fun _ _ => hF.fn _, ?_⟩⟩
    refine (hbody F (n - 1) c _ u hF hro hst hout.h hargs hm).mono ?_
    rintro e u' w' ⟨y, m', c', rfl, hQ, hev', hst', rfl, hm'⟩
    refine Qam hF hro hrs hs0 es c' ⟨s.tm, c'.h⟩ m'.settle (Go.settle u') (Ev.trans hs0 hev hev') hst' ⟨rfl, hout.size, fun t => (hout.tm t).ev hst hev'⟩ hnd (fun e he => (hok e (by simp [he])).ev hst hev') hm'.settle (fun v h => ?_) hQ
    cases m' with
    | ret => cases h
    | pan v' b => cases b <;> cases h
def Ql6 (P : Program) (rs : List ResultVar) (h : AH) (Q : AOut → AH → Prop) : AExit → AS → List DA → Prop
  | .normal, s, ds | .ret, s, ds => Qgx P rs h Q ds .ret s
  | .panic v, s, ds => Qgx P rs h Q ds (.pan v false) s
  | .exit _, _, _ => False
theorem Qds {P : Program} {f : FuncId} {fn : Func} {code : Code} {args : List AV} {h : AH} {Q : AOut → AH → Prop} (hf : P.funcs[f]? = some fn) (hb : fn.body = some code)
    (hcall : ∀ vals w, (callFunc f vals).run P w = .ok (.enter f vals) w) {N : Nat} (hN : fn.ntmps = N) {rs : List ResultVar} (hrs : fn.results.toList = rs) (hn : args.length ≤ N) (H : DefW P N code (Ql6 P rs h Q) ⟨Qu args, h⟩ []) : Q9 P f args h Q := by
  subst hN
  refine ⟨hcall, fun F n c vals hF hs hh hvals => Zz ?_⟩
  subst hh
  refine callsIn_of_wp_marks hf hb (hF.plain.fn f) ?_
  have hsr : SRd fn.ntmps c.w.heap.size c ⟨Qu args, c.h⟩ { tmps := vals ++ Array.replicate (fn.ntmps - vals.size) undef, defers := [] } [] := by
    refine ⟨rfl, by have := hvals.1; simp; omega, Nat.le_refl _, ⟨[], rfl, rfl, List.nodup_nil, fun e h => by cases h⟩, fun t => ?_⟩
    simp only [Qu]
    rw [Array.getD_eq_getD_getElem?, Array.getElem?_append, List.getD_eq_getElem?_getD]
    have hsz := hvals.1
    by_cases ht : t < vals.size
    · rw [if_pos ht]
      obtain ⟨u, hu⟩ : ∃ u, vals[t]? = some u := ⟨_, Array.getElem?_eq_getElem ht⟩
      obtain ⟨a, ha⟩ : ∃ a, args[t]? = some a := ⟨_, List.getElem?_eq_getElem (by omega)⟩
      rw [hu, ha]
      exact hvals.2 t a u ha hu
    · rw [if_neg ht, List.getElem?_eq_none (by omega), Array.getElem?_replicate]
      split
      · exact .v _
      · exact .v _
  refine H F.plain n c.w.heap.size c _ hF.plain rfl hs hsr _ ?_
  intro e s' ds' c' a' e' hQ hev hst hr hex
  obtain ⟨es, e1, e2, e3, e4⟩ := hr.defs
  subst e2
  have hout : Out fn.ntmps c' s' a'.tmps := ⟨hr.h, hr.size, hr.tm⟩
  have key := fun (m : AMode) (u : FrameMode) (hm : MdC c' m u) (hnr : ∀ v, m ≠ .pan v true) H => e1 ▸ Qam (P := P) hF.plain rfl (n := n) (fn := fn) (tmps := a'.tmps) hrs (Q := Q) hs es c' s' m u hev hst hout e3 e4 hm hnr H
  cases e with
  | normal => cases hex; exact key .ret .returning rfl (fun v h => by cases h) hQ
  | ret => cases hex; exact key .ret .returning rfl (fun v h => by cases h) hQ
  | panic av =>
    obtain ⟨x, rfl, hx⟩ := hex
    exact key (.pan av false) _ ⟨x, rfl, hx⟩ (fun v h => by cases h) hQ
  | exit id => exact hQ.elim
theorem Z6 {P : Program} {F : Fence} {n : Nat} {fn : Func} {tmps : Array Value} {R : Ending → World → Prop} : ∀ (ds : List Deferred) (u : FrameMode) (w : World) (fr : Frame)
    (cs : List Frame), fr.mode = u → fr.defers = ds → fr.tmps = tmps → P.funcs[fr.fn]? = some fn → fr.kind = .deferred → F.fn fr.fn → F.room (cs.length + 1 + n) → LeavesInM F n P fn tmps R ds u w →
    ∃ e w' fr', R e w' ∧ ComesIn (Machine.fenced P F) P (lone fr cs w) (lone fr' cs w') e ∧ fr'.fn = fr.fn ∧ fr'.kind = .deferred ∧ fr'.going P w' e := by
  intro ds
  induction ds with
  | nil =>
    intro u w fr cs hu hd ht hf hk _ _ h
    cases u with
    | run => exact h.elim
    | returning =>
      obtain ⟨v, hr, hR⟩ := h
      exact ⟨.returned v, w, fr, hR, StepsIn.refl _, rfl, hk, hu, hd, fn, hf, ht ▸ hr⟩
    | panicking chain => exact ⟨.panicked chain, w, fr, h, StepsIn.refl _, rfl, hk, hu, hd, fn, hf⟩
  | cons d ds ih =>
    intro u w fr cs hu hd ht hf hk hb hroom h
    obtain ⟨hrun, h⟩ := h
    rcases h with ⟨r, w', htar, htake, hrest⟩ | ⟨hn, fv, cap, f, args, htar, hinv, hlead, hFf, hcall⟩
    · have h1 := step_collected (cs := cs) (hu ▸ hrun) hd htar htake
      have i1 : (lone fr cs w).fenced P F := fenced_out hb hroom (hu ▸ hrun) hd (fun g hg => by rw [htar] at hg; simp [Target.leads] at hg)
      obtain ⟨e', w'', fr', hR', hs', hfn', hl'⟩ := ih u w' { fr with defers := [] ++ ds } cs hu rfl ht hf hk hb hroom hrest
      exact ⟨e', w'', fr', hR', ComesIn.of_steps (.one i1 h1) hs', hfn', hl'⟩
    · have h1 := step_defer (cs := cs) (hu ▸ hrun) hd htar hinv
      have i1 : (lone fr cs w).fenced P F := fenced_out hb hroom (hu ▸ hrun) hd hlead
      have hroom' : F.room (({ fr with defers := ds } :: cs).length + 1 + (n - 1)) := Fence.room_enter hroom hn
      obtain ⟨e, u', w', frX, hR, hsteps, hkX, hfX, hgo⟩ := hcall { fr with defers := ds } cs hu hroom'
      cases e with
      | outgrown => exact ⟨.outgrown, w', fr, hR, Outgrown.of_steps (.one h1) hsteps, rfl, hk, trivial⟩
      | returned v =>
        have i2 : (lone frX ({ { fr with defers := ds } with mode := u' } :: cs) w').fenced P F := fenced_going (n := n - 1) (hfX ▸ hFf) hroom' hgo
        have h2 := step_going_returned (c := { { fr with defers := ds } with mode := u' }) (cs := cs) hkX hgo
        obtain ⟨e', w'', fr', hR', hs', hfn', hl'⟩ := ih (Go.settle u') w' { { { fr with defers := ds } with mode := u' } with mode := Go.settle u' } cs rfl rfl ht hf hk hb hroom hR
        exact ⟨e', w'', fr', hR', ComesIn.of_steps (.head i1 h1 (StepsIn.trans hsteps (.one i2 h2))) hs', hfn', hl'⟩
      | panicked chain =>
        have i2 : (lone frX ({ { fr with defers := ds } with mode := u' } :: cs) w').fenced P F := fenced_going (n := n - 1) (hfX ▸ hFf) hroom' hgo
        have h2 := step_going_panicked (c := { { fr with defers := ds } with mode := u' }) (cs := cs) hgo
        obtain ⟨e', w'', fr', hR', hs', hfn', hl'⟩ := ih (raised u' chain) w' { { { fr with defers := ds } with mode := u' } with mode := raised u' chain } cs rfl rfl ht hf hk hb hroom hR
        exact ⟨e', w'', fr', hR', ComesIn.of_steps (.head i1 h1 (StepsIn.trans hsteps (.one i2 h2))) hs', hfn', hl'⟩
theorem Qax {P : Program} {F : Fence} {n : Nat} {f : FuncId} {fn : Func} {c : Code} {args : Array Value} {u : FrameMode} {w : World} {R : Ending → World → Prop}
    (hf : P.funcs[f]? = some fn) (hb : fn.body = some c) (hF : F.fn f)
    (h : c.wpIn F n P (bodyPostM F n P fn R) { tmps := args ++ Array.replicate (fn.ntmps - args.size) undef, defers := [] } w) (hro : F.round = none) :
    CallsDIn F n P f args u w fun e u' w' => u' = u ∧ R e w' := by
  refine ⟨hF, fun c₀ cs hu hr => ?_⟩
  let b : Frame := { (default : Frame) with fn := f, kind := .deferred, roundOf := none }
  have henter : Frame.enter P f args .deferred =
      b.atR { tmps := args ++ Array.replicate (fn.ntmps - args.size) undef, defers := [] } [.code c] := by
    simp [Frame.enter, Frame.atR, hf, hb, b]
  have hc : ({ c₀ with mode := u } : Frame) = c₀ := by subst hu; rfl
  obtain ⟨e, a', w', hq, harr⟩ := h b [] (c₀ :: cs) hro.symm hF hr
  rw [← henter] at harr
  cases e with
  | normal =>
    obtain ⟨e', w'', fr', hR, hs, hfn, hk, hl⟩ := Z6 a'.defers .returning w' { b.atR a' [] with mode := .returning } (c₀ :: cs) rfl rfl rfl hf rfl hF hr hq
    exact ⟨e', u, w'', fr', ⟨rfl, hR⟩, (by rw [hc]; exact ComesIn.of_steps (StepsIn.trans harr (.one (fenced_calm (fr := b.atR a' []) hF hr rfl) (stepR_end rfl))) hs), hk, hfn, hl⟩
  | ret =>
    obtain ⟨todo, hs₀⟩ := harr.1 rfl
    obtain ⟨e', w'', fr', hR, hs, hfn, hk, hl⟩ := Z6 a'.defers .returning w' { b.atR a' todo with mode := .returning } (c₀ :: cs) rfl rfl rfl hf rfl hF hr hq
    exact ⟨e', u, w'', fr', ⟨rfl, hR⟩, (by rw [hc]; exact ComesIn.of_steps hs₀ hs), hk, hfn, hl⟩
  | panic chain =>
    obtain ⟨todo, hs₀⟩ := harr
    obtain ⟨e', w'', fr', hR, hs, hfn, hk, hl⟩ := Z6 a'.defers (.panicking chain) w' { b.atR a' todo with mode := .panicking chain } (c₀ :: cs) rfl rfl rfl hf rfl hF hr hq
    exact ⟨e', u, w'', fr', ⟨rfl, hR⟩, (by rw [hc]; exact ComesIn.of_steps hs₀ hs), hk, hfn, hl⟩
  | exit id => exact hq.elim
  | goto l => exact hq.elim
  | outgrown => exact ⟨.outgrown, u, w', b, ⟨rfl, hq⟩, harr.resolve_left (by simp [b]), rfl, rfl, trivial⟩
theorem Qc2 {P : Program} {f : FuncId} {fn : Func} {code : Code} {args : List AV} {h : AH} {Q : AH → Prop} (hf : P.funcs[f]? = some fn) (hb : fn.body = some code)
    (hcall : ∀ vals w, (callFunc f vals).run P w = .ok (.enter f vals) w) {N : Nat} (hN : fn.ntmps = N) {rs : List ResultVar} (hrs : fn.results.toList = rs) (hn : args.length ≤ N)
    (H : DefW P N code (Ql6 P rs h fun o h' => (∃ r, o = .ret r) ∧ Q h') ⟨Qu args, h⟩ []) (m : AMode) : Qbk P f args h m fun m' h' => m' = m ∧ Q h' := by
  subst hN
  refine ⟨hcall, fun F n c vals u hF hro hs hh hvals hm => ?_⟩
  subst hh
  refine (Qax (R := fun e w' => ∃ (o : AOut) (c' : Cx), ((∃ r, o = AOut.ret r) ∧ Q c'.h) ∧ Ev c c' ∧ St c' ∧ c'.w = w' ∧ EndC c' o e) hf hb (hF.fn f) ?_ hro).mono ?_
  · have hsr : SRd fn.ntmps c.w.heap.size c ⟨Qu args, c.h⟩ { tmps := vals ++ Array.replicate (fn.ntmps - vals.size) undef, defers := [] } [] := by
      refine ⟨rfl, by have := hvals.1; simp; omega, Nat.le_refl _, ⟨[], rfl, rfl, List.nodup_nil, fun e h => by cases h⟩, fun t => ?_⟩
      simp only [Qu]
      rw [Array.getD_eq_getD_getElem?, Array.getElem?_append, List.getD_eq_getElem?_getD]
      have hsz := hvals.1
      by_cases ht : t < vals.size
      · rw [if_pos ht]
        obtain ⟨u, hu⟩ : ∃ u, vals[t]? = some u := ⟨_, Array.getElem?_eq_getElem ht⟩
        obtain ⟨a, ha⟩ : ∃ a, args[t]? = some a := ⟨_, List.getElem?_eq_getElem (by omega)⟩
        rw [hu, ha]
        exact hvals.2 t a u ha hu
      · rw [if_neg ht, List.getElem?_eq_none (by omega), Array.getElem?_replicate]
        split
        · exact .v _
        · exact .v _
    refine H F n c.w.heap.size c _ hF hro hs hsr _ ?_
    intro e s' ds' c' a' e' hQ hev hst hr hex
    obtain ⟨es, e1, e2, e3, e4⟩ := hr.defs
    subst e2
    have hout : Out fn.ntmps c' s' a'.tmps := ⟨hr.h, hr.size, hr.tm⟩
    have key := fun (m : AMode) (u : FrameMode) (hm : MdC c' m u) (hnr : ∀ v, m ≠ .pan v true) H => e1 ▸ Qam (P := P) hF hro (n := n) (fn := fn) (tmps := a'.tmps) hrs (Q := fun o h' => (∃ r, o = AOut.ret r) ∧ Q h') hs es c' s' m u hev hst hout e3 e4 hm hnr H
    cases e with
    | normal => cases hex; exact key .ret .returning rfl (fun v h => by cases h) hQ
    | ret => cases hex; exact key .ret .returning rfl (fun v h => by cases h) hQ
    | panic av =>
      obtain ⟨x, rfl, hx⟩ := hex
      exact key (.pan av false) _ ⟨x, rfl, hx⟩ (fun v h => by cases h) hQ
    | exit id => exact hQ.elim
  · rintro e u' w' ⟨rfl, o, c', ⟨⟨r, rfl⟩, hQ⟩, hev, hst', rfl, x, rfl, hx⟩
    exact ⟨x, m, c', rfl, ⟨rfl, hQ⟩, hev, hst', rfl, hm.ev hs hev⟩
theorem QdB {P : Program} {f : FuncId} {fn : Func} {code : Code} {args : List AV} {h : AH} {Q : AH → Prop} (hf : P.funcs[f]? = some fn) (hb : fn.body = some code)
    (hcall : ∀ vals w, (callFunc f vals).run P w = .ok (.enter f vals) w) {N : Nat} (hN : fn.ntmps = N) {rs : List ResultVar} (hrs : fn.results.toList = rs) (hn : args.length ≤ N)
    (H : XH P N code (QC P rs h fun o h' => (∃ r, o = .ret r) ∧ Q h') ⟨Qu args, h⟩) (m : AMode) : Qbk P f args h m fun m' h' => m' = m ∧ Q h' :=
  Qc2 hf hb hcall hN hrs hn (Qa4 (H.mono fun e s hq => by cases e <;> exact hq)) m
end Go.Proofs.YtniljpjjnmkoaaaGreatDoor.Ab
set_option maxRecDepth 4000
namespace Go.Proofs.YtniljpjjnmkoaaaGreatDoor.Ab
open Go.Proofs
def HB (h : AH) (i j : Nat) (u : Bool) (tx : ByteArray) : AH := hs2 h i (bw 162 i j u tx) j (.grow 5 1 tx.size)
theorem wTy : BTy 162 := .inr rfl
abbrev lpa : ByteArray := { data := #[40] }
abbrev rpa : ByteArray := { data := #[41] }
def encB (b : Bool) (x : ByteArray) : ByteArray := if b then lpa ++ x ++ rpa else x
theorem Qbk.mono {P : Program} {f : FuncId} {args : List AV} {h : AH} {m : AMode} {Q Q' : AMode → AH → Prop} (H : Qbk P f args h m Q) (hq : ∀ m' h', Q m' h' → Q' m' h') : Qbk P f args h m Q' :=
  ⟨H.1, fun F n c vals u hF hro hs hh hvals hm => (H.2 F n c vals u hF hro hs hh hvals hm).mono fun e u' w' ⟨x, m', c', h1, h2, h3⟩ => ⟨x, m', c', h1, hq _ _ h2, h3⟩⟩
theorem Qeg {h : AH} {i j : Nat} (hi : i < h.length) (hj : j < h.length) (hij : i ≠ j) (u : Bool) (tx : ByteArray) (b : UInt8) (hs : tx.size < 140737488355328) (m : AMode) :
    Qbk Tryz.prog 152 [.ptr i 0 0, .v (.int .u8 (b.toNat : Nat))] (HB h i j u tx) m fun m' h' => m' = m ∧ h' = HB h i j true (tx ++ { data := #[b] }) := by
  have f1 := fun x y => Yk h i x j y
  have f2 := fun x y => Yo (h := h) hi hij x y
  have f3 := fun x y z => Qch (h := h) (i := i) (j := j) hij x y z
  have f5 := fun x y z => Qco (h := h) (i := i) (j := j) x y z
  have f7 := fun x y => Qac (h := h) (i := i) hj x y
  have c1 := Zv wTy hij u tx h hi hj
  have e1 : Q6 (tx ++ { data := #[b] }) = Q6 tx ++ [.v (.int .u8 (b.toNat : Nat))] := Y9 tx _
  have e2 : (tx ++ ({ data := #[b] } : ByteArray)).size = tx.size + 1 := QA _ _
  have hs' : tx.size + 1 ≤ 140737488355328 := hs
  have hm : tx.size + 1 ≤ maxLen := by simp only [maxLen]; omega
  refine QdB Tryz.func152 rfl Tryz.call152 Tryz.ntmps152 (congrArg Array.toList Tryz.results152) (by simp) ?_ m
  rw [HB, HB, bw1, e1, e2]
  repeat (first | ((first | (with_reducible (first | refine Qa fun K E hK hE => ?_ | refine Qm fun K E hK hE => ?_ | refine FunW.ret (FunW.call c1) ?_))); simp -implicitDefEqProofs only [Qg, Qf, OpW, QI, aop, undef, AS.ev, Qu, AV.QnA, ↓reduceIte, Nat.reduceAdd, Nat.reduceLT, Nat.reduceLeDiff, Nat.reduceEqDiff, Qq, QD, QE, QN, QJ, QM, XG, XV, Nat.reducePow, zi5, QkI, Qiu, Qmo, QeP, QO, f2, f3, f5, f7, bw1, Xw, hm, hs', Nat.mul_one]) | (with_reducible (first | refine Qd fun K hK => ?_ | refine Qi ?_ | refine Qj ?_ | refine QP ?_ | refine QQ ?_ | refine Qn ?_ | refine QB ?_ | refine Qb ?_ | refine Qp ?_ | refine Qw ?_ | refine Qo ?_ | refine Qs ?_ | refine Qv ?_ | refine QL rfl ?_)) | (with_reducible (first | refine hK _ ?_ | (clear hK; refine hK _ ?_) | (clear hK; clear hK; refine hK _ ?_) | (clear hK; clear hK; clear hK; refine hK _ ?_)); clear hK) | (refine Qh rfl ?_; simp only [↓reduceIte, Qok]) | (intro (b : Bool); cases b))
  simp -implicitDefEqProofs only [QaC, ↓reduceIte, Qom, QC, Ql, Qr, Qoq]
  exact .inr ⟨⟨_, rfl⟩, rfl⟩
theorem ZM {h : AH} {i j : Nat} (hi : i < h.length) (hj : j < h.length) (hij : i ≠ j) (need u : Bool) (tx body : ByteArray) {fv r : AV} (hs : tx.size + (encB need body).size ≤ 140737488355328)
    (hw : FunW Tryz.prog fv [] (HB h i j (u || need) (if need then tx ++ lpa else tx)) fun o h' => o = .ret r ∧ h' = HB h i j true ((if need then tx ++ lpa else tx) ++ body)) :
    Q9 Tryz.prog 133 [.ptr i 0 0, .b need, fv] (HB h i j u tx) fun o h' => o = .ret (.tup []) ∧ h' = HB h i j true (tx ++ encB need body) := by
  have f2 := fun x y => Yo (h := h) hi hij x y
  have e0 : ∀ u tx, HB h i j u tx = hs2 h i (bw 162 i j u tx) j (.grow 5 1 tx.size) := fun _ _ => rfl
  have f0 : ∀ u tx, (HB h i j u tx)[i]? = some (bw 162 i j u tx) := fun u tx => f2 _ _
  have f1 : ∀ u tx, bw 162 i j u tx = .cells 162 2 [.agg [if u then .ptr i 0 0 else .v (.pointer none), .sl 1 (Q6 tx) (some j)]] := fun _ _ => rfl
  cases need
  · rw [Bool.or_false, if_neg (by decide)] at hw
    refine Qe Tryz.func133 rfl Tryz.call133 Tryz.ntmps133 (congrArg Array.toList Tryz.results133) (by simp) ?_
    repeat (first | ((first | (with_reducible (first | refine Qa fun K E hK hE => ?_ | refine Qm fun K E hK hE => ?_ | refine FunW.ret hw ?_))); simp -implicitDefEqProofs only [Qg, Qf, OpW, QI, aop, undef, AS.ev, Qu, ↓reduceIte, Nat.reduceLT, Nat.reduceEqDiff]) | (with_reducible (first | refine Qd fun K hK => ?_ | refine Qi ?_ | refine Qj ?_ | refine QP ?_ | refine QQ ?_ | refine Qn ?_ | refine QB ?_ | refine Qb ?_ | refine Qp ?_ | refine Qw ?_ | refine Qo ?_ | refine Qs ?_ | refine Qv ?_ | refine QL rfl ?_)) | (with_reducible (first | refine hK _ ?_ | (clear hK; refine hK _ ?_) | (clear hK; clear hK; refine hK _ ?_) | (clear hK; clear hK; clear hK; refine hK _ ?_)); clear hK) | (refine Qh rfl ?_; simp only [↓reduceIte, Qok]) | (intro (b : Bool); cases b))
    simp -implicitDefEqProofs only [Qoi, Qom, List.mapM_nil, Option.pure_def, Qoi, QC, Ql, Qoq]
    exact .inr ⟨rfl, rfl⟩
  · rw [Bool.or_true, if_pos rfl] at hw
    have hsz : tx.size + body.size + 2 ≤ 140737488355328 := by
      rw [encB, if_pos rfl, QA, QA] at hs
      have : lpa.size = 1 := rfl
      have : rpa.size = 1 := rfl
      omega
    have c1 := Qev wTy hij u tx 40 (by omega) h hi hj
    rw [← e0, ← e0, show ((UInt8.toNat 40 : Nat) : Int) = 40 from rfl] at c1
    refine Qds Tryz.func133 rfl Tryz.call133 Tryz.ntmps133 (congrArg Array.toList Tryz.results133) (by simp) ?_
    refine QeV (QeV (Qa4 ?_))
    repeat (first | ((first | (with_reducible (first | refine Qa fun K E hK hE => ?_ | refine Qm fun K E hK hE => ?_))); simp -implicitDefEqProofs only [Qg, Qf, OpW, aop, undef, AS.ev, Qu, Nat.reduceLT]) | (with_reducible (first | refine Qd fun K hK => ?_ | refine Qi ?_ | refine Qj ?_ | refine QP ?_ | refine QQ ?_ | refine Qn ?_ | refine QB ?_ | refine Qb ?_ | refine Qp ?_ | refine Qw ?_ | refine Qo ?_ | refine Qs ?_ | refine Qv ?_ | refine QL rfl ?_)) | (with_reducible (first | refine hK _ ?_ | (clear hK; refine hK _ ?_) | (clear hK; clear hK; refine hK _ ?_) | (clear hK; clear hK; clear hK; refine hK _ ?_)); clear hK) | (refine Qh rfl ?_; simp only [↓reduceIte, Qok]) | (intro (b : Bool); cases b))
    show DefW _ _ _ _ _ _
    refine QiM rfl (QeV (Qa4 ?_))
    repeat (first | ((first | (with_reducible (first | refine Qa fun K E hK hE => ?_ | refine Qm fun K E hK hE => ?_ | refine FunW.ret (FunW.call c1) ?_))); simp -implicitDefEqProofs only [Qg, Qf, OpW, QI, aop, undef, AS.ev, Qu, ↓reduceIte, Nat.reduceLT, Nat.reduceEqDiff, Qq, XW, QO, f0, f1]) | (with_reducible (first | refine Qd fun K hK => ?_ | refine Qi ?_ | refine Qj ?_ | refine QP ?_ | refine QQ ?_ | refine Qn ?_ | refine QB ?_ | refine Qb ?_ | refine Qp ?_ | refine Qw ?_ | refine Qo ?_ | refine Qs ?_ | refine Qv ?_ | refine QL rfl ?_)) | (with_reducible (first | refine hK _ ?_ | (clear hK; refine hK _ ?_) | (clear hK; clear hK; refine hK _ ?_) | (clear hK; clear hK; clear hK; refine hK _ ?_)); clear hK) | (refine Qh rfl ?_; simp only [↓reduceIte, Qok]) | (intro (b : Bool); cases b))
    show DefW _ _ _ _ _ _
    refine QgJ 3 rfl rfl rfl ?_
    simp -implicitDefEqProofs only [Qg, Qf, OpW, aop, undef, AS.ev, Qu, ↓reduceIte, Nat.reduceAdd, Nat.reduceLT, Nat.reduceEqDiff, Qq, XW, QO, f0, f1]
    refine ⟨_, _, _, rfl, ?_⟩
    show DefW _ _ _ _ _ _
    refine Qa4 ?_
    repeat (first | ((first | (with_reducible (first | refine Qa fun K E hK hE => ?_ | refine Qm fun K E hK hE => ?_ | refine FunW.ret hw ?_))); simp -implicitDefEqProofs only [Qg, Qf, OpW, QI, aop, undef, AS.ev, Qu, ↓reduceIte, Nat.reduceLT, Nat.reduceEqDiff]) | (with_reducible (first | refine Qd fun K hK => ?_ | refine Qi ?_ | refine Qj ?_ | refine QP ?_ | refine QQ ?_ | refine Qn ?_ | refine QB ?_ | refine Qb ?_ | refine Qp ?_ | refine Qw ?_ | refine Qo ?_ | refine Qs ?_ | refine Qv ?_ | refine QL rfl ?_)) | (with_reducible (first | refine hK _ ?_ | (clear hK; refine hK _ ?_) | (clear hK; clear hK; refine hK _ ?_) | (clear hK; clear hK; clear hK; refine hK _ ?_)); clear hK) | (refine Qh rfl ?_; simp only [↓reduceIte, Qok]) | (intro (b : Bool); cases b))
    simp only [Ql6, Qgx]
    refine Qbk.mono (Qeg hi hj hij true ((tx ++ lpa) ++ body) 41 (by rw [QA, QA]; have : lpa.size = 1 := rfl; omega) .ret) ?_
    rintro m' h' ⟨rfl, rfl⟩
    simp only [AMode.settle, Qgx]
    simp -implicitDefEqProofs only [Qoi, Qom, List.mapM_nil, Option.pure_def, Qoi, QC, Ql, Qoq]
    exact .inr ⟨rfl, by rw [encB, if_pos rfl, ByteArray.append_assoc, ByteArray.append_assoc, ByteArray.append_assoc]⟩
end Go.Proofs.YtniljpjjnmkoaaaGreatDoor.Ab
set_option maxRecDepth 4000
namespace Go.Proofs.YtniljpjjnmkoaaaGreatDoor.Ab
open Go.Proofs
abbrev QaE : ByteArray := { data := #[44, 32] }
def binT (o : Int) (n : ByteArray) (oa oc : Int) (x y : ByteArray) : ByteArray := (encB ((oa == 1) && (o == 2)) x ++ (({ data := #[32] } : ByteArray) ++ n ++ { data := #[32] })) ++ encB ((oc != 0) && ((oc == 1) || (o == 2))) y
def X5 : Bool → List ByteArray → ByteArray
  | _, [] => .empty
  | f, x :: r => (if f then x else QaE ++ x) ++ X5 false r
def funT (n : ByteArray) (l : List ByteArray) : ByteArray := n ++ encB (decide (0 < l.length)) (X5 true l)
mutual
def T.txt : T → ByteArray
  | .mk k i n l => if (T.mk k i n l).oper ≠ 0 then (match l.map T.oper, txts l with
      | [oa, oc], [x, y] => binT (ofB n) n oa oc x y
      | _, _ => .empty) else
    if k = 0 then decZ i else if k = 1 then vOf (decN i.toNat) else funT n (txts l)
def txts : List T → List ByteArray
  | [] => []
  | t :: l => t.txt :: txts l
end
theorem QiL (l : List T) : txts l = l.map T.txt := by
  induction l with
  | nil => rfl
  | cons t l ih => rw [txts, ih]; rfl
mutual
def T.lex : T → Prop
  | .mk k i n l => (k = 0 → -9223372036854775807 ≤ i ∧ i ≤ 9223372036854775807) ∧ (k = 1 → 0 ≤ i ∧ i ≤ 1048576) ∧ l.length ≤ 1000000 ∧ n.size ≤ 1000000 ∧ lexL l
def lexL : List T → Prop
  | [] => True
  | t :: l => t.lex ∧ lexL l
end
section
variable {h : AH} {i j : Nat} (hi : i < h.length) (hj : j < h.length) (hij : i ≠ j)
theorem Qed (h : AH) (i j : Nat) (u : Bool) (tx : ByteArray) : (HB h i j u tx).length = h.length := Yk _ _ _ _ _
theorem QcO (h : AH) (i j : Nat) (u : Bool) (tx : ByteArray) (L : AH) : (HB h i j u tx ++ L)[h.length]? = L[0]? := QkH _ _ _
theorem Qf0 (h : AH) (i j : Nat) (u : Bool) (tx : ByteArray) (L : AH) (k : Nat) : (HB h i j u tx ++ L)[h.length + k]? = L[k]? := QlO _ _ _ _
theorem QkE (h : AH) (i j : Nat) (u : Bool) (tx : ByteArray) (z : AB) (L : AH) : (HB h i j u tx ++ L).set h.length z = HB h i j u tx ++ L.set 0 z := QiA _ _ _ _
theorem QlG (h : AH) (i j : Nat) (u : Bool) (tx : ByteArray) (z : AB) (L : AH) (k : Nat) : (HB h i j u tx ++ L).set (h.length + k) z = HB h i j u tx ++ L.set k z := QkT _ _ _ _ _
include hi hj in
theorem Qhr (u : Bool) (tx : ByteArray) (L : AH) : HB (h ++ L) i j u tx = HB h i j u tx ++ L := QgL hi hj _ _ _
include hi hij in
theorem Qci (u : Bool) (tx : ByteArray) (L : AH) : (HB h i j u tx ++ L)[i]? = some (.cells 162 2 [.agg [if u then .ptr i 0 0 else .v (.pointer none), .sl 1 (Q6 tx) (some j)]]) := QjL hi hij _ _ _
theorem Qml {u u' : Bool} {tx tx' : ByteArray} (hij : i ≠ j) (H : Xm (HB h i j u tx)) : Xm (HB h i j u' tx') := by
  obtain ⟨k, ty, fr, e⟩ := H
  refine ⟨k, ty, fr, ?_⟩
  have hk := QG e
  rw [Qed] at hk
  by_cases h1 : i = k
  · subst h1; rw [HB, Yo hk hij] at e; cases e
  · by_cases h2 : j = k
    · subst h2; rw [HB, Qac hk] at e; cases e
    · rw [HB, YQ _ _ h1 h2] at e ⊢; exact e
theorem Xr {u u' : Bool} {tx tx' : ByteArray} {L : AH} {r r' : AV} {Q : AV → AH → Prop} (hi : i < h.length) (hj : j < h.length) (hij : i ≠ j) (hf : Frz (HB h i j u' tx' ++ L) h.length r r') (hq : Q r' (HB h i j u' tx')) : Leaves (HB h i j u tx) (HB h i j u' tx' ++ L) r Q :=
  QhN hij (Qkn hi hj) trivial hf hq
end
def Wri (f : FuncId) (args : List AV) (h : AH) (i j : Nat) (u : Bool) (tx add : ByteArray) : Prop :=
  Q9 Tryz.prog f args (HB h i j u tx) fun o h' => o = .ret (.tup []) ∧ h' = HB h i j true (tx ++ add)
theorem wstr {h : AH} {i j : Nat} (hi : i < h.length) (hj : j < h.length) (hij : i ≠ j) (u : Bool) (tx s : ByteArray) (hs : tx.size + s.size ≤ 140737488355328) :
    Q9 Tryz.prog 106 [.ptr i 0 0, .v (.string s)] (HB h i j u tx) fun o h' => o = .ret (.tup [.i s.size, .v .nilIface]) ∧ h' = HB h i j true (tx ++ s) :=
  Qcx wTy hij u tx s hs h hi hj
theorem YL {p : Prop} (h : 2 = 3) : p := by cases h
theorem QjN {G G' : AH} {p q i : Nat} {t a : T} {r : AV} (hp : G[p]? = some (.cells 129 1 [.ptr i 0 0])) (hq : G[q]? = some (.cells 41 4 [t.av])) (ha : t.args[0]? = some a)
    (H : Q9 Tryz.prog 102 [.ptr i 0 0, a.av] G fun o h' => o = .ret r ∧ h' = G') :
    Q9 Tryz.prog 134 [.ptr p 0 0, .ptr q 0 0] G fun o h' => o = .ret (.tup []) ∧ h' = G' := by
  have e1 : t.av = .agg [.i t.kind, .i t.int, .v (.string t.name), .sl 4 (avs t.args) none] := by cases t; rfl
  have hlt : 0 < t.args.length := QG ha
  have hz : (0 : Int) < t.args.length := by omega
  have hg := Xb hlt
  have ea : t.args[0] = a := by rw [List.getElem?_eq_getElem hlt] at ha; injection ha
  rw [ea] at hg
  rw [e1] at hq
  refine Qe Tryz.func134 rfl Tryz.call134 Tryz.ntmps134 (congrArg Array.toList Tryz.results134) (by simp) ?_
  repeat (first | ((first | (with_reducible refine Xp (FunW.call H) YL ?_) | (refine QH (id := 0) [(0, 0), (1, 0), (2, 0), (3, 0), (4, 0), (5, 2)] mixed (by kernel_rfl) fun K hK => ?_)); simp -implicitDefEqProofs only [Qg, Qf, aop, undef, AS.ev, Qu, ↓reduceIte, Nat.reduceAdd, Nat.reduceLT, Nat.reduceLeDiff, Nat.reduceEqDiff, Qq, QD, QE, Qz, ti29, ei29, ti41, Q7, Zd, Qo3, hp, hq, hz, hg]) | ((with_reducible refine hK _ ?_); clear hK))
  simp -implicitDefEqProofs only [Qoi, Qom, List.mapM_nil, Option.pure_def, Qoi, QC, Ql, Qoq]
  exact .inr ⟨rfl, rfl⟩
theorem Qj8 {G G' : AH} {p q i : Nat} {t a : T} {r : AV} (hp : G[p]? = some (.cells 129 1 [.ptr i 0 0])) (hq : G[q]? = some (.cells 41 4 [t.av])) (ha : t.args[1]? = some a)
    (H : Q9 Tryz.prog 102 [.ptr i 0 0, a.av] G fun o h' => o = .ret r ∧ h' = G') :
    Q9 Tryz.prog 135 [.ptr p 0 0, .ptr q 0 0] G fun o h' => o = .ret (.tup []) ∧ h' = G' := by
  have e1 : t.av = .agg [.i t.kind, .i t.int, .v (.string t.name), .sl 4 (avs t.args) none] := by cases t; rfl
  have hlt : 1 < t.args.length := QG ha
  have hz : (1 : Int) < t.args.length := by omega
  have z1 : (0 : Int) ≤ 1 := by decide
  have hg := Xb hlt
  have ea : t.args[1] = a := by rw [List.getElem?_eq_getElem hlt] at ha; injection ha
  rw [ea] at hg
  rw [e1] at hq
  refine Qe Tryz.func135 rfl Tryz.call135 Tryz.ntmps135 (congrArg Array.toList Tryz.results135) (by simp) ?_
  repeat (first | ((first | (with_reducible refine Xp (FunW.call H) YL ?_) | (refine QH (id := 0) [(0, 0), (1, 0), (2, 0), (3, 0), (4, 0), (5, 2)] mixed (by kernel_rfl) fun K hK => ?_)); simp -implicitDefEqProofs only [Qg, Qf, aop, undef, AS.ev, Qu, ↓reduceIte, Nat.reduceAdd, Nat.reduceLT, Nat.reduceLeDiff, Nat.reduceEqDiff, Qq, QD, QE, Qz, ti29, ei29, ti41, Q7, Zd, hp, hq, hz, z1, hg]) | ((with_reducible refine hK _ ?_); clear hK))
  simp -implicitDefEqProofs only [Qoi, Qom, List.mapM_nil, Option.pure_def, Qoi, QC, Ql, Qoq]
  exact .inr ⟨rfl, rfl⟩
theorem Qio (f : Bool) (l : List ByteArray) : ∀ x r, l = x :: r → (X5 f l).size = (if f then 0 else 2) + x.size + (X5 false r).size := by
  rintro x r rfl
  rw [X5, QA]
  cases f
  · simp only [Qok, if_false, QA]; have : QaE.size = 2 := rfl; omega
  · simp
theorem Qfu {h : AH} {i j : Nat} (hi : i < h.length) (hj : j < h.length) (hij : i ≠ j) (l : List T) {p q : Nat} (hp : p < h.length) (hq : q < h.length) (hpi : i ≠ p) (hpj : j ≠ p) (hqi : i ≠ q) (hqj : j ≠ q)
    (gp : h[p]? = some (.cells 129 1 [.ptr i 0 0])) (gq : h[q]? = some (.cells 29 1 [.sl 4 (avs l) none])) (hl : l.length ≤ 1000000)
    (ih : ∀ t ∈ l, ∀ (h : AH), i < h.length → j < h.length → Xm (HB h i j true (.empty)) → ∀ tx : ByteArray, tx.size + t.txt.size ≤ 140737488355328 → Wri 102 [.ptr i 0 0, t.av] h i j true tx t.txt)
    (hG : Xm (HB h i j true (.empty))) (tx : ByteArray) (hs : tx.size + (X5 true (txts l)).size ≤ 140737488355328) :
    Wri 136 [.ptr q 0 0, .ptr p 0 0] h i j true tx (X5 true (txts l)) := by
  have k0 : ∀ u tx L, (HB h i j u tx ++ L)[p]? = some (.cells 129 1 [.ptr i 0 0]) := fun u tx L => by
    rw [List.getElem?_append_left (by rw [Qed]; exact hp), HB, YQ _ _ hpi hpj, gp]
  have k1 : ∀ u tx, (HB h i j u tx)[q]? = some (.cells 29 1 [.sl 4 (avs l) none]) := fun u tx => by
    rw [HB, YQ _ _ hqi hqj, gq]
  have f1 := Qed h i j
  have f2 := fun u tx L => QcO h i j u tx L
  have f3 := fun u tx L => Qf0 h i j u tx L
  have f4 := fun u tx z L => QkE h i j u tx z L
  have f5 := fun u tx z L => QlG h i j u tx z L
  have f6 := fun u tx L => Qci (h := h) hi hij u tx L
  refine Qe Tryz.func136 rfl Tryz.call136 Tryz.ntmps136 (congrArg Array.toList Tryz.results136) (by simp) ?_
  repeat (first | (((with_reducible refine Qa fun K E hK hE => ?_)); simp -implicitDefEqProofs only [Qg, Qf, OpW, aop, undef, AS.ev, Qu, ↓reduceIte, Nat.reduceLT, QD, QE, aLen, goInt, ti29, un29, k1]) | (with_reducible refine Qi ?_) | ((with_reducible refine hK _ ?_); clear hK))
  obtain ⟨I, hI⟩ : ∃ I : Nat → AS → Prop, I = fun m' s => ∃ (k : Nat) (cur : ByteArray), m' = l.length - k ∧ k ≤ l.length ∧ cur ++ X5 (decide (k = 0)) (txts (l.drop k)) = tx ++ X5 true (txts l) ∧ s.tm 0 = .ptr q 0 0 ∧ s.tm 1 = .ptr p 0 0 ∧ s.tm 4 = .sl 4 (avs l) none ∧ s.tm 5 = .i l.length ∧ s.tm 6 = .i k ∧ (∃ L, s.h = HB h i j true cur ++ L) := ⟨_, rfl⟩; refine QK I ?_ (m := l.length) ?_
  · intro m' s hs; rw [hI] at hs; obtain ⟨tm, hp⟩ := s; dsimp only at hs; obtain ⟨k, cur, rfl, hk, he, t0, t1, t4, t5, t6, L, rfl⟩ := hs
    by_cases hlt : k < l.length
    · have hg := Xb hlt
      have z1 : (k : Int) < l.length := by omega
      have hsz : cur.size + (X5 (decide (k = 0)) (txts (l.drop k))).size = tx.size + (X5 true (txts l)).size := by rw [← QA, he, QA]
      have hd : txts (l.drop k) = (l[k]).txt :: txts (l.drop (k + 1)) := by rw [List.drop_eq_getElem_cons hlt]; rfl
      have hcm : QaE.size = 2 := rfl
      rw [hd, X5, QA] at hsz
      rw [hd, X5] at he
      have gapp := fun (u : Bool) (tx : ByteArray) (L : AH) => Qhr (h := h) (i := i) (j := j) hi hj u tx L
      have glen : ∀ L : AH, i < (h ++ L).length ∧ j < (h ++ L).length := fun L => by rw [List.length_append]; omega
      by_cases hk0 : k = 0
      · rw [decide_eq_true hk0, if_pos rfl] at hsz he
        have z2 : ¬ (k : Int) > 0 := by omega
        have c := ih l[k] (List.getElem_mem hlt) (h ++ (L ++ [AB.cells 41 4 [l[k].av]])) (glen _).1 (glen _).2 (by rw [gapp]; exact HasG.app hG _) cur (by omega)
        rw [Wri, gapp, gapp] at c
        repeat (first | ((first | (with_reducible (first | refine Qa fun K E hK hE => ?_ | refine Qm fun K E hK hE => ?_ | refine FunW.ret (FunW.call c) ?_))); simp -implicitDefEqProofs only [Qg, Qf, OpW, QI, aop, undef, AS.ev, AV.QnA, ↓reduceIte, Nat.reduceAdd, Nat.reduceLT, Nat.reduceEqDiff, QD, QE, QN, QJ, Qz, aBin, ei29, ti41, zi41, Zd, t1, t4, t5, t6, z1, z2, hg, k0, f1, f3, f5]) | (with_reducible (first | refine Qd fun K hK => ?_ | refine Qi ?_ | refine Qn ?_ | refine Qb ?_ | refine Qo ?_)) | ((with_reducible refine hK _ ?_); clear hK) | (refine Qh rfl ?_; simp only [↓reduceIte, Qok]))
        refine Q4.mk (m' := l.length - (k + 1)) (by omega) ?_
        rw [hI]
        refine ⟨k + 1, cur ++ (l[k]).txt, rfl, hlt, ?_, t0, t1, t4, t5, ?_, _, rfl⟩
        · rw [decide_eq_false (Nat.succ_ne_zero k), ByteArray.append_assoc]; exact he
        · simp only [upd, ↓reduceIte]
          rw [QT (by omega)]
      · rw [decide_eq_false hk0, if_neg (by decide), QA] at hsz
        rw [decide_eq_false hk0, if_neg (by decide)] at he
        have z2 : (k : Int) > 0 := by omega
        have c1 := wstr (h := h ++ (L ++ [AB.cells 41 4 [l[k].av]])) (glen _).1 (glen _).2 hij true cur QaE (by omega)
        rw [gapp, gapp] at c1
        have c := ih l[k] (List.getElem_mem hlt) (h ++ (L ++ [AB.cells 41 4 [l[k].av]])) (glen _).1 (glen _).2 (by rw [gapp]; exact HasG.app hG _) (cur ++ QaE) (by rw [QA]; omega)
        rw [Wri, gapp, gapp] at c
        repeat (first | ((first | (with_reducible (first | refine Qa fun K E hK hE => ?_ | refine Qm fun K E hK hE => ?_ | refine FunW.ret (FunW.call c) ?_ | refine FunW.ret (FunW.call c1) ?_))); simp -implicitDefEqProofs only [Qg, Qf, OpW, QI, aop, undef, AS.ev, AV.QnA, ↓reduceIte, Nat.reduceAdd, Nat.reduceLT, Nat.reduceEqDiff, Qq, QD, QE, QN, QJ, Qz, aBin, ei29, ti41, zi41, Zd, XW, QO, t1, t4, t5, t6, z1, z2, hg, k0, f1, f3, f5, f6]) | (with_reducible (first | refine Qd fun K hK => ?_ | refine Qi ?_ | refine Qn ?_ | refine Qb ?_ | refine Qo ?_)) | ((with_reducible refine hK _ ?_); clear hK) | (refine Qh rfl ?_; simp only [↓reduceIte]))
        refine Q4.mk (m' := l.length - (k + 1)) (by omega) ?_
        rw [hI]
        refine ⟨k + 1, (cur ++ QaE) ++ (l[k]).txt, rfl, hlt, ?_, t0, t1, t4, t5, ?_, _, rfl⟩
        · rw [decide_eq_false (Nat.succ_ne_zero k)]; simp only [ByteArray.append_assoc] at he ⊢; exact he
        · simp only [upd, ↓reduceIte]
          rw [QT (by omega)]
    · have hkn : k = l.length := by omega
      subst hkn
      have z1 : ¬ ((l.length : Nat) : Int) < l.length := by omega
      rw [List.drop_length, txts, X5, ByteArray.append_empty] at he
      repeat (first | (((with_reducible refine Qa fun K E hK hE => ?_)); simp -implicitDefEqProofs only [Qg, Qf, OpW, aop, AS.ev, Nat.reduceLT, aBin, t5, t6, z1]) | (with_reducible (first | refine Qd fun K hK => ?_ | refine QB ?_ | refine Qw ?_ | refine Qv ?_)) | ((with_reducible refine hK _ ?_); clear hK) | (refine Qh rfl ?_; simp only [↓reduceIte, Qok]))
      simp -implicitDefEqProofs only [Qoi, Qom, List.mapM_nil, Option.pure_def, Qoi, QC, Ql, Qoq]
      exact Xr hi hj hij (.keep (.tup _ fun x hx => by cases hx)) ⟨rfl, by rw [he]⟩
  · rw [hI]
    exact ⟨0, tx, rfl, by omega, rfl, rfl, rfl, rfl, rfl, rfl, [], (List.append_nil _).symm⟩
theorem Zx (l : List T) : (txts l).length = l.length := by rw [QiL, List.length_map]
theorem QcL {h : AH} {i j : Nat} (hi : i < h.length) (hj : j < h.length) (hij : i ≠ j) (l : List T) (hl : l.length ≤ 1000000) (s : ByteArray)
    (ih : ∀ t ∈ l, ∀ (h : AH), i < h.length → j < h.length → Xm (HB h i j true (.empty)) → ∀ tx : ByteArray, tx.size + t.txt.size ≤ 140737488355328 → Wri 102 [.ptr i 0 0, t.av] h i j true tx t.txt)
    (hG : Xm (HB h i j true (.empty))) (u : Bool) (tx : ByteArray) (hs : tx.size + (funT s (txts l)).size ≤ 140737488355328) :
    Wri 104 [.ptr i 0 0, .v (.string s), .sl 4 (avs l) none] h i j u tx (funT s (txts l)) := by
  obtain ⟨L, hL⟩ : ∃ L : AH, L = [AB.cells 129 1 [.ptr i 0 0], AB.cells 29 1 [.sl 4 (avs l) none]] := ⟨_, rfl⟩
  have hlL : (h ++ L).length = h.length + 2 := by rw [hL]; simp
  have hi' : i < (h ++ L).length := by omega
  have hj' : j < (h ++ L).length := by omega
  have gapp := fun (u : Bool) (tx : ByteArray) (L : AH) => Qhr (h := h) (i := i) (j := j) hi hj u tx L
  have hsz : (funT s (txts l)).size = s.size + (encB (decide (0 < (txts l).length)) (X5 true (txts l))).size := by rw [funT, QA]
  rw [Zx] at hsz
  obtain ⟨body, hbody⟩ : ∃ b, b = X5 true (txts l) := ⟨_, rfl⟩
  rw [← hbody] at hsz
  have hbs : body.size ≤ (encB (decide (0 < l.length)) body).size := by
    rw [encB]; split
    · rw [QA, QA]; omega
    · exact Nat.le_refl _
  have c1 := wstr (h := h ++ L) hi' hj' hij u tx s (by omega)
  rw [gapp, gapp, hL] at c1
  have gp : (h ++ L)[h.length]? = some (.cells 129 1 [.ptr i 0 0]) := by rw [hL]; simp
  have gq : (h ++ L)[h.length + 1]? = some (.cells 29 1 [.sl 4 (avs l) none]) := by rw [hL]; simp
  have hn : decide ((l.length : Int) > 0) = decide (0 < l.length) := by rw [Bool.eq_iff_iff]; simp
  have hx : ((if decide (0 < l.length) = true then tx ++ s ++ lpa else tx ++ s)).size + body.size ≤ 140737488355328 := by
    by_cases h0 : 0 < l.length
    · rw [if_pos (decide_eq_true h0), QA, QA]
      rw [encB, if_pos (decide_eq_true h0), QA, QA] at hsz
      omega
    · rw [if_neg (by simpa using h0), QA]
      omega
  have hw := Qfu (h := h ++ L) hi' hj' hij l (p := h.length) (q := h.length + 1) (by omega) (by omega) (by omega) (by omega) (by omega) (by omega) gp gq hl ih (by rw [gapp]; exact HasG.app hG _)
    (if decide (0 < l.length) = true then tx ++ s ++ lpa else tx ++ s) (by rw [← hbody]; exact hx)
  rw [← hbody] at hw
  have c2 := ZM (h := h ++ L) hi' hj' hij (decide (0 < l.length)) true (tx ++ s) body (fv := .fn (.func 136) [] [.ptr (h.length + 1) 0 0, .ptr h.length 0 0]) (by rw [QA]; omega) (FunW.fn hw)
  rw [gapp, gapp, hL] at c2
  have f2 := fun u tx L => QcO h i j u tx L
  have f3 := fun u tx L => Qf0 h i j u tx L
  have f6 := fun u tx L => Qci (h := h) hi hij u tx L
  have f1 := Qed h i j
  refine Qe Tryz.func104 rfl Tryz.call104 Tryz.ntmps104 (congrArg Array.toList Tryz.results104) (by simp) ?_
  repeat (first | ((first | (with_reducible (first | refine Qa fun K E hK hE => ?_ | refine Qm fun K E hK hE => ?_ | refine FunW.ret (FunW.call c1) ?_ | refine FunW.ret (FunW.call c2) ?_))); simp -implicitDefEqProofs only [Qg, Qf, OpW, QI, aop, undef, AS.ev, Qu, AV.QnA, ↓reduceIte, Nat.reduceLT, Nat.reduceEqDiff, Qq, QD, QE, aBin, aLen, goInt, ti29, un29, Zd, XW, QO, f1, f2, f3, f6, hn]) | ((with_reducible refine hK _ ?_); clear hK))
  simp -implicitDefEqProofs only [Qoi, Qom, List.mapM_nil, Option.pure_def, Qoi, QC, Ql, Qoq]
  exact Xr hi hj hij (.keep (.tup _ fun x hx => by cases hx)) ⟨rfl, by rw [funT, Zx, ← hbody, ByteArray.append_assoc]⟩
end Go.Proofs.YtniljpjjnmkoaaaGreatDoor.Ab
set_option maxRecDepth 4000
namespace Go.Proofs.YtniljpjjnmkoaaaGreatDoor.Ab
open Go.Proofs
def TIh (i j : Nat) (t : T) : Prop := ∀ (h : AH), i < h.length → j < h.length → Xm (HB h i j true (.empty)) → ∀ (u : Bool) (tx : ByteArray), tx.size + t.txt.size ≤ 140737488355328 → Wri 102 [.ptr i 0 0, t.av] h i j u tx t.txt
theorem QiV (b : Bool) (x tx : ByteArray) : (if b = true then tx ++ lpa else tx).size + x.size ≤ tx.size + (encB b x).size := by
  rw [encB]; split
  · rw [QA, QA, QA]; omega
  · exact Nat.le_refl _
theorem Qle {h : AH} {i j : Nat} (hi : i < h.length) (hj : j < h.length) (hij : i ≠ j) (n : ByteArray) (x : Int) (a c : T) (hn : n.size ≤ 1000000) (ho : ofB n ≠ 0) (hla : a.args.length ≤ 1000000) (hlc : c.args.length ≤ 1000000) (iha : TIh i j a) (ihc : TIh i j c)
    (hG : Xm (HB h i j true (.empty))) (u : Bool) (tx : ByteArray) (hs : tx.size + (binT (ofB n) n a.oper c.oper a.txt c.txt).size ≤ 140737488355328) :
    Wri 102 [.ptr i 0 0, (T.mk 2 x n [a, c]).av] h i j u tx (binT (ofB n) n a.oper c.oper a.txt c.txt) := by
  obtain ⟨t, ht⟩ : ∃ t, t = T.mk 2 x n [a, c] := ⟨_, rfl⟩
  have eo : t.oper = ofB n := by rw [ht]; rfl
  have eav : t.av = .agg [.i 2, .i x, .v (.string n), .sl 4 (avs [a, c]) none] := by rw [ht]; rfl
  obtain ⟨L, hL⟩ : ∃ L : AH, L = [AB.cells 129 1 [.ptr i 0 0], AB.cells 41 4 [t.av]] := ⟨_, rfl⟩
  have hlL : (h ++ L).length = h.length + 2 := by rw [hL]; simp
  have hi' : i < (h ++ L).length := by omega
  have hj' : j < (h ++ L).length := by omega
  have gapp := fun (u : Bool) (tx : ByteArray) (L : AH) => Qhr (h := h) (i := i) (j := j) hi hj u tx L
  have hG' : Xm (HB (h ++ L) i j true (.empty)) := by rw [gapp]; exact HasG.app hG _
  have gp : ∀ u tx, (HB (h ++ L) i j u tx)[h.length]? = some (.cells 129 1 [.ptr i 0 0]) := fun u tx => by rw [gapp, QcO, hL]; rfl
  have gq : ∀ u tx, (HB (h ++ L) i j u tx)[h.length + 1]? = some (.cells 41 4 [t.av]) := fun u tx => by rw [gapp, Qf0, hL]; rfl
  have ct := Qah t (by rw [ht]; simp [maxLen, T.args])
  rw [eo, eav] at ct
  have ca := Qah a (by simp only [maxLen]; omega)
  have cc := Qah c (by simp only [maxLen]; omega)
  obtain ⟨o, eoo⟩ : ∃ o, o = ofB n := ⟨_, rfl⟩
  obtain ⟨oa, eoa⟩ : ∃ o, o = a.oper := ⟨_, rfl⟩
  obtain ⟨oc, eoc⟩ : ∃ o, o = c.oper := ⟨_, rfl⟩
  rw [← eoo] at ct
  rw [← eoa] at ca
  rw [← eoc] at cc
  rw [← eoo, ← eoa, ← eoc] at hs ⊢
  rw [← eoo] at ho
  have hm := hs
  simp only [binT, QA] at hm
  have hsp : ({ data := #[32] } : ByteArray).size = 1 := rfl
  -- the first operand
  have hw1 := fun (u : Bool) (q : Bool) (tx' : ByteArray) (hq : tx'.size + a.txt.size ≤ 140737488355328) => QjN (p := h.length) (q := h.length + 1) (t := t) (a := a) (gp u tx') (gq u tx') (by rw [ht]; rfl) (iha (h ++ L) hi' hj' hG' u tx' hq)
  have hw2 := fun (u : Bool) (q : Bool) (tx' : ByteArray) (hq : tx'.size + c.txt.size ≤ 140737488355328) => Qj8 (p := h.length) (q := h.length + 1) (t := t) (a := c) (gp u tx') (gq u tx') (by rw [ht]; rfl) (ihc (h ++ L) hi' hj' hG' u tx' hq)
  have e1 := QiV ((oa == 1) && (o == 2)) a.txt tx
  have c1 := ZM (h := h ++ L) hi' hj' hij ((oa == 1) && (o == 2)) u tx a.txt (fv := .fn (.func 134) [] [.ptr h.length 0 0, .ptr (h.length + 1) 0 0]) (by omega) (FunW.fn (hw1 _ true _ (by omega)))
  obtain ⟨tx1, etx1⟩ : ∃ z, z = tx ++ encB ((oa == 1) && (o == 2)) a.txt := ⟨_, rfl⟩
  rw [← etx1] at c1
  have hsz1 : tx1.size = tx.size + (encB ((oa == 1) && (o == 2)) a.txt).size := by rw [etx1, QA]
  have c2 := wstr (h := h ++ L) hi' hj' hij true tx1 (({ data := #[32] } : ByteArray) ++ n ++ { data := #[32] }) (by simp only [QA]; omega)
  obtain ⟨tx2, etx2⟩ : ∃ z, z = tx1 ++ (({ data := #[32] } : ByteArray) ++ n ++ { data := #[32] }) := ⟨_, rfl⟩
  rw [← etx2] at c2
  have hsz2 : tx2.size = tx1.size + (1 + n.size + 1) := by rw [etx2]; simp only [QA, hsp]
  have e3 := QiV ((oc != 0) && ((oc == 1) || (o == 2))) c.txt tx2
  have c3 := ZM (h := h ++ L) hi' hj' hij ((oc != 0) && ((oc == 1) || (o == 2))) true tx2 c.txt (fv := .fn (.func 135) [] [.ptr h.length 0 0, .ptr (h.length + 1) 0 0]) (by omega) (FunW.fn (hw2 _ true _ (by omega)))
  have efin : tx2 ++ encB ((oc != 0) && ((oc == 1) || (o == 2))) c.txt = tx ++ binT o n oa oc a.txt c.txt := by
    rw [etx2, etx1, binT]; simp only [ByteArray.append_assoc]
  rw [efin] at c3
  rw [gapp, gapp, hL, eav] at c1 c2 c3
  have f1 := Qed h i j
  have f2 := fun u tx L => QcO h i j u tx L
  have f3 := fun u tx L => Qf0 h i j u tx L
  have f6 := fun u tx L => Qci (h := h) hi hij u tx L
  have hsa1 := fun xo yo => Xe Tryz.prog 9 xo yo ({ data := #[32] } : ByteArray) n (by omega)
  have hsa2 := fun xo yo => Xe Tryz.prog 9 xo yo (({ data := #[32] } : ByteArray) ++ n) { data := #[32] } (by rw [QA]; omega)
  have ga : (avs [a, c])[0]? = some a.av := rfl
  have gc : (avs [a, c])[1]? = some c.av := rfl
  have hav : (T.mk 2 x n [a, c]).av = .agg [.i 2, .i x, .v (.string n), .sl 4 (avs [a, c]) none] := rfl
  have ho' : (o != 0) = true := by simpa using ho
  rw [hav]
  have hll : (avs [a, c]).length = 2 := rfl
  have z0 : ((0 : Int) ≤ 1) = True := by simp
  have z1 : ((0 : Int) < ((2 : Nat) : Int)) = True := by simp
  have z2 : ((1 : Int) < ((2 : Nat) : Int)) = True := by simp
  obtain ⟨q1, eq1⟩ : ∃ z, z = ((oa == 1) && (o == 2)) := ⟨_, rfl⟩
  obtain ⟨q3, eq3⟩ : ∃ z, z = ((oc != 0) && ((oc == 1) || (o == 2))) := ⟨_, rfl⟩
  rw [← eq1] at c1
  rw [← eq3] at c3
  cases b1 : (oa == 1)
  · cases b2 : (o == 2)
    · cases b3 : (oc != 0)
      · have hq1 : q1 = false := by rw [eq1, b1, b2]; rfl
        have hq3 : q3 = false := by rw [eq3, b2, b3]; rfl
        rw [hq1] at c1
        rw [hq3] at c3
        refine Qe Tryz.func102 rfl Tryz.call102 Tryz.ntmps102 (congrArg Array.toList Tryz.results102) (by simp) ?_
        repeat (first | ((first | (with_reducible (first | refine Qa fun K E hK hE => ?_ | refine Qm fun K E hK hE => ?_ | refine Qk ct ?_ | refine Qt ca ?_ | refine Qt cc ?_ | refine FunW.ret (FunW.call c1) ?_ | refine FunW.ret (FunW.call c3) ?_ | refine Xp (FunW.call c2) YL ?_)) | (refine Qy (id := 4) [(0, 0), (1, 0), (2, 0), (3, 0), (4, 1), (5, 0), (6, 0), (7, 0), (8, 0), (9, 1), (10, 0), (11, 0)] mixed (by kernel_rfl) fun K hK => ?_) | (refine Qy (id := 6) [(0, 0), (1, 0), (2, 0), (3, 0), (4, 0), (5, 0), (6, 0), (7, 2)] mixed (by kernel_rfl) fun K hK => ?_)); simp -implicitDefEqProofs only [Qg, Qf, OpW, QI, aop, undef, AS.ev, Qu, AV.QnA, ↓reduceIte, Nat.reduceAdd, Nat.reduceLT, Nat.reduceLeDiff, Nat.reduceEqDiff, Qq, QD, QE, Qz, aBin, ti9, ti29, ei29, ti41, Xc, Q7, Zd, XW, Qo3, QO, f1, f2, f3, f6, ho', hll, ga, gc, z0, z1, z2, b1, b3, hsa1, hsa2]) | (with_reducible (first | refine Qi ?_ | refine Qo ?_)) | ((with_reducible refine hK _ ?_); clear hK) | (refine Qh rfl ?_; simp only [↓reduceIte]))
        simp -implicitDefEqProofs only [Qoi, Qom, List.mapM_nil, Option.pure_def, Qoi, QC, Ql, Qoq]
        exact Xr hi hj hij (.keep (.tup _ fun x hx => by cases hx)) ⟨rfl, rfl⟩
      · cases b4 : (oc == 1)
        · have hq1 : q1 = false := by rw [eq1, b1, b2]; rfl
          have hq3 : q3 = false := by rw [eq3, b2, b3, b4]; rfl
          rw [hq1] at c1
          rw [hq3] at c3
          refine Qe Tryz.func102 rfl Tryz.call102 Tryz.ntmps102 (congrArg Array.toList Tryz.results102) (by simp) ?_
          repeat (first | ((first | (with_reducible (first | refine Qa fun K E hK hE => ?_ | refine Qm fun K E hK hE => ?_ | refine Qk ct ?_ | refine Qt ca ?_ | refine Qt cc ?_ | refine FunW.ret (FunW.call c1) ?_ | refine FunW.ret (FunW.call c3) ?_ | refine Xp (FunW.call c2) YL ?_)) | (refine Qy (id := 4) [(0, 0), (1, 0), (2, 0), (3, 0), (4, 1), (5, 0), (6, 0), (7, 0), (8, 0), (9, 1), (10, 0), (11, 0)] mixed (by kernel_rfl) fun K hK => ?_) | (refine Qy (id := 6) [(0, 0), (1, 0), (2, 0), (3, 0), (4, 0), (5, 0), (6, 0), (7, 2)] mixed (by kernel_rfl) fun K hK => ?_)); simp -implicitDefEqProofs only [Qg, Qf, OpW, QI, aop, undef, AS.ev, Qu, AV.QnA, ↓reduceIte, Nat.reduceAdd, Nat.reduceLT, Nat.reduceLeDiff, Nat.reduceEqDiff, Qq, QD, QE, Qz, aBin, ti9, ti29, ei29, ti41, Xc, Q7, Zd, XW, Qo3, QO, f1, f2, f3, f6, ho', hll, ga, gc, z0, z1, z2, b1, b2, b3, b4, hsa1, hsa2]) | (with_reducible (first | refine Qi ?_ | refine Qo ?_)) | ((with_reducible refine hK _ ?_); clear hK) | (refine Qh rfl ?_; simp only [↓reduceIte]))
          simp -implicitDefEqProofs only [Qoi, Qom, List.mapM_nil, Option.pure_def, Qoi, QC, Ql, Qoq]
          exact Xr hi hj hij (.keep (.tup _ fun x hx => by cases hx)) ⟨rfl, rfl⟩
        · have hq1 : q1 = false := by rw [eq1, b1, b2]; rfl
          have hq3 : q3 = true := by rw [eq3, b2, b3, b4]; rfl
          rw [hq1] at c1
          rw [hq3] at c3
          refine Qe Tryz.func102 rfl Tryz.call102 Tryz.ntmps102 (congrArg Array.toList Tryz.results102) (by simp) ?_
          repeat (first | ((first | (with_reducible (first | refine Qa fun K E hK hE => ?_ | refine Qm fun K E hK hE => ?_ | refine Qk ct ?_ | refine Qt ca ?_ | refine Qt cc ?_ | refine FunW.ret (FunW.call c1) ?_ | refine FunW.ret (FunW.call c3) ?_ | refine Xp (FunW.call c2) YL ?_)) | (refine Qy (id := 4) [(0, 0), (1, 0), (2, 0), (3, 0), (4, 1), (5, 0), (6, 0), (7, 0), (8, 0), (9, 1), (10, 0), (11, 0)] mixed (by kernel_rfl) fun K hK => ?_) | (refine Qy (id := 6) [(0, 0), (1, 0), (2, 0), (3, 0), (4, 0), (5, 0), (6, 0), (7, 2)] mixed (by kernel_rfl) fun K hK => ?_)); simp -implicitDefEqProofs only [Qg, Qf, OpW, QI, aop, undef, AS.ev, Qu, AV.QnA, ↓reduceIte, Nat.reduceAdd, Nat.reduceLT, Nat.reduceLeDiff, Nat.reduceEqDiff, Qq, QD, QE, Qz, aBin, ti9, ti29, ei29, ti41, Xc, Q7, Zd, XW, Qo3, QO, f1, f2, f3, f6, ho', hll, ga, gc, z0, z1, z2, b1, b3, b4, hsa1, hsa2]) | (with_reducible (first | refine Qi ?_ | refine Qo ?_)) | ((with_reducible refine hK _ ?_); clear hK) | (refine Qh rfl ?_; simp only [↓reduceIte]))
          simp -implicitDefEqProofs only [Qoi, Qom, List.mapM_nil, Option.pure_def, Qoi, QC, Ql, Qoq]
          exact Xr hi hj hij (.keep (.tup _ fun x hx => by cases hx)) ⟨rfl, rfl⟩
    · cases b3 : (oc != 0)
      · have hq1 : q1 = false := by rw [eq1, b1, b2]; rfl
        have hq3 : q3 = false := by rw [eq3, b2, b3]; rfl
        rw [hq1] at c1
        rw [hq3] at c3
        refine Qe Tryz.func102 rfl Tryz.call102 Tryz.ntmps102 (congrArg Array.toList Tryz.results102) (by simp) ?_
        repeat (first | ((first | (with_reducible (first | refine Qa fun K E hK hE => ?_ | refine Qm fun K E hK hE => ?_ | refine Qk ct ?_ | refine Qt ca ?_ | refine Qt cc ?_ | refine FunW.ret (FunW.call c1) ?_ | refine FunW.ret (FunW.call c3) ?_ | refine Xp (FunW.call c2) YL ?_)) | (refine Qy (id := 4) [(0, 0), (1, 0), (2, 0), (3, 0), (4, 1), (5, 0), (6, 0), (7, 0), (8, 0), (9, 1), (10, 0), (11, 0)] mixed (by kernel_rfl) fun K hK => ?_) | (refine Qy (id := 6) [(0, 0), (1, 0), (2, 0), (3, 0), (4, 0), (5, 0), (6, 0), (7, 2)] mixed (by kernel_rfl) fun K hK => ?_)); simp -implicitDefEqProofs only [Qg, Qf, OpW, QI, aop, undef, AS.ev, Qu, AV.QnA, ↓reduceIte, Nat.reduceAdd, Nat.reduceLT, Nat.reduceLeDiff, Nat.reduceEqDiff, Qq, QD, QE, Qz, aBin, ti9, ti29, ei29, ti41, Xc, Q7, Zd, XW, Qo3, QO, f1, f2, f3, f6, ho', hll, ga, gc, z0, z1, z2, b1, b3, hsa1, hsa2]) | (with_reducible (first | refine Qi ?_ | refine Qo ?_)) | ((with_reducible refine hK _ ?_); clear hK) | (refine Qh rfl ?_; simp only [↓reduceIte]))
        simp -implicitDefEqProofs only [Qoi, Qom, List.mapM_nil, Option.pure_def, Qoi, QC, Ql, Qoq]
        exact Xr hi hj hij (.keep (.tup _ fun x hx => by cases hx)) ⟨rfl, rfl⟩
      · cases b4 : (oc == 1)
        · have hq1 : q1 = false := by rw [eq1, b1, b2]; rfl
          have hq3 : q3 = true := by rw [eq3, b2, b3, b4]; rfl
          rw [hq1] at c1
          rw [hq3] at c3
          refine Qe Tryz.func102 rfl Tryz.call102 Tryz.ntmps102 (congrArg Array.toList Tryz.results102) (by simp) ?_
          repeat (first | ((first | (with_reducible (first | refine Qa fun K E hK hE => ?_ | refine Qm fun K E hK hE => ?_ | refine Qk ct ?_ | refine Qt ca ?_ | refine Qt cc ?_ | refine FunW.ret (FunW.call c1) ?_ | refine FunW.ret (FunW.call c3) ?_ | refine Xp (FunW.call c2) YL ?_)) | (refine Qy (id := 4) [(0, 0), (1, 0), (2, 0), (3, 0), (4, 1), (5, 0), (6, 0), (7, 0), (8, 0), (9, 1), (10, 0), (11, 0)] mixed (by kernel_rfl) fun K hK => ?_) | (refine Qy (id := 6) [(0, 0), (1, 0), (2, 0), (3, 0), (4, 0), (5, 0), (6, 0), (7, 2)] mixed (by kernel_rfl) fun K hK => ?_)); simp -implicitDefEqProofs only [Qg, Qf, OpW, QI, aop, undef, AS.ev, Qu, AV.QnA, ↓reduceIte, Nat.reduceAdd, Nat.reduceLT, Nat.reduceLeDiff, Nat.reduceEqDiff, Qq, QD, QE, Qz, aBin, ti9, ti29, ei29, ti41, Xc, Q7, Zd, XW, Qo3, QO, f1, f2, f3, f6, ho', hll, ga, gc, z0, z1, z2, b1, b2, b3, b4, hsa1, hsa2]) | (with_reducible (first | refine Qi ?_ | refine Qo ?_)) | ((with_reducible refine hK _ ?_); clear hK) | (refine Qh rfl ?_; simp only [↓reduceIte]))
          simp -implicitDefEqProofs only [Qoi, Qom, List.mapM_nil, Option.pure_def, Qoi, QC, Ql, Qoq]
          exact Xr hi hj hij (.keep (.tup _ fun x hx => by cases hx)) ⟨rfl, rfl⟩
        · have hq1 : q1 = false := by rw [eq1, b1, b2]; rfl
          have hq3 : q3 = true := by rw [eq3, b2, b3, b4]; rfl
          rw [hq1] at c1
          rw [hq3] at c3
          refine Qe Tryz.func102 rfl Tryz.call102 Tryz.ntmps102 (congrArg Array.toList Tryz.results102) (by simp) ?_
          repeat (first | ((first | (with_reducible (first | refine Qa fun K E hK hE => ?_ | refine Qm fun K E hK hE => ?_ | refine Qk ct ?_ | refine Qt ca ?_ | refine Qt cc ?_ | refine FunW.ret (FunW.call c1) ?_ | refine FunW.ret (FunW.call c3) ?_ | refine Xp (FunW.call c2) YL ?_)) | (refine Qy (id := 4) [(0, 0), (1, 0), (2, 0), (3, 0), (4, 1), (5, 0), (6, 0), (7, 0), (8, 0), (9, 1), (10, 0), (11, 0)] mixed (by kernel_rfl) fun K hK => ?_) | (refine Qy (id := 6) [(0, 0), (1, 0), (2, 0), (3, 0), (4, 0), (5, 0), (6, 0), (7, 2)] mixed (by kernel_rfl) fun K hK => ?_)); simp -implicitDefEqProofs only [Qg, Qf, OpW, QI, aop, undef, AS.ev, Qu, AV.QnA, ↓reduceIte, Nat.reduceAdd, Nat.reduceLT, Nat.reduceLeDiff, Nat.reduceEqDiff, Qq, QD, QE, Qz, aBin, ti9, ti29, ei29, ti41, Xc, Q7, Zd, XW, Qo3, QO, f1, f2, f3, f6, ho', hll, ga, gc, z0, z1, z2, b1, b3, b4, hsa1, hsa2]) | (with_reducible (first | refine Qi ?_ | refine Qo ?_)) | ((with_reducible refine hK _ ?_); clear hK) | (refine Qh rfl ?_; simp only [↓reduceIte]))
          simp -implicitDefEqProofs only [Qoi, Qom, List.mapM_nil, Option.pure_def, Qoi, QC, Ql, Qoq]
          exact Xr hi hj hij (.keep (.tup _ fun x hx => by cases hx)) ⟨rfl, rfl⟩
  · cases b2 : (o == 2)
    · cases b3 : (oc != 0)
      · have hq1 : q1 = false := by rw [eq1, b1, b2]; rfl
        have hq3 : q3 = false := by rw [eq3, b2, b3]; rfl
        rw [hq1] at c1
        rw [hq3] at c3
        refine Qe Tryz.func102 rfl Tryz.call102 Tryz.ntmps102 (congrArg Array.toList Tryz.results102) (by simp) ?_
        repeat (first | ((first | (with_reducible (first | refine Qa fun K E hK hE => ?_ | refine Qm fun K E hK hE => ?_ | refine Qk ct ?_ | refine Qt ca ?_ | refine Qt cc ?_ | refine FunW.ret (FunW.call c1) ?_ | refine FunW.ret (FunW.call c3) ?_ | refine Xp (FunW.call c2) YL ?_)) | (refine Qy (id := 4) [(0, 0), (1, 0), (2, 0), (3, 0), (4, 1), (5, 0), (6, 0), (7, 0), (8, 0), (9, 1), (10, 0), (11, 0)] mixed (by kernel_rfl) fun K hK => ?_) | (refine Qy (id := 6) [(0, 0), (1, 0), (2, 0), (3, 0), (4, 0), (5, 0), (6, 0), (7, 2)] mixed (by kernel_rfl) fun K hK => ?_)); simp -implicitDefEqProofs only [Qg, Qf, OpW, QI, aop, undef, AS.ev, Qu, AV.QnA, ↓reduceIte, Nat.reduceAdd, Nat.reduceLT, Nat.reduceLeDiff, Nat.reduceEqDiff, Qq, QD, QE, Qz, aBin, ti9, ti29, ei29, ti41, Xc, Q7, Zd, XW, Qo3, QO, f1, f2, f3, f6, ho', hll, ga, gc, z0, z1, z2, b1, b2, b3, hsa1, hsa2]) | (with_reducible (first | refine Qi ?_ | refine Qo ?_)) | ((with_reducible refine hK _ ?_); clear hK) | (refine Qh rfl ?_; simp only [↓reduceIte]))
        simp -implicitDefEqProofs only [Qoi, Qom, List.mapM_nil, Option.pure_def, Qoi, QC, Ql, Qoq]
        exact Xr hi hj hij (.keep (.tup _ fun x hx => by cases hx)) ⟨rfl, rfl⟩
      · cases b4 : (oc == 1)
        · have hq1 : q1 = false := by rw [eq1, b1, b2]; rfl
          have hq3 : q3 = false := by rw [eq3, b2, b3, b4]; rfl
          rw [hq1] at c1
          rw [hq3] at c3
          refine Qe Tryz.func102 rfl Tryz.call102 Tryz.ntmps102 (congrArg Array.toList Tryz.results102) (by simp) ?_
          repeat (first | ((first | (with_reducible (first | refine Qa fun K E hK hE => ?_ | refine Qm fun K E hK hE => ?_ | refine Qk ct ?_ | refine Qt ca ?_ | refine Qt cc ?_ | refine FunW.ret (FunW.call c1) ?_ | refine FunW.ret (FunW.call c3) ?_ | refine Xp (FunW.call c2) YL ?_)) | (refine Qy (id := 4) [(0, 0), (1, 0), (2, 0), (3, 0), (4, 1), (5, 0), (6, 0), (7, 0), (8, 0), (9, 1), (10, 0), (11, 0)] mixed (by kernel_rfl) fun K hK => ?_) | (refine Qy (id := 6) [(0, 0), (1, 0), (2, 0), (3, 0), (4, 0), (5, 0), (6, 0), (7, 2)] mixed (by kernel_rfl) fun K hK => ?_)); simp -implicitDefEqProofs only [Qg, Qf, OpW, QI, aop, undef, AS.ev, Qu, AV.QnA, ↓reduceIte, Nat.reduceAdd, Nat.reduceLT, Nat.reduceLeDiff, Nat.reduceEqDiff, Qq, QD, QE, Qz, aBin, ti9, ti29, ei29, ti41, Xc, Q7, Zd, XW, Qo3, QO, f1, f2, f3, f6, ho', hll, ga, gc, z0, z1, z2, b1, b2, b3, b4, hsa1, hsa2]) | (with_reducible (first | refine Qi ?_ | refine Qo ?_)) | ((with_reducible refine hK _ ?_); clear hK) | (refine Qh rfl ?_; simp only [↓reduceIte]))
          simp -implicitDefEqProofs only [Qoi, Qom, List.mapM_nil, Option.pure_def, Qoi, QC, Ql, Qoq]
          exact Xr hi hj hij (.keep (.tup _ fun x hx => by cases hx)) ⟨rfl, rfl⟩
        · have hq1 : q1 = false := by rw [eq1, b1, b2]; rfl
          have hq3 : q3 = true := by rw [eq3, b2, b3, b4]; rfl
          rw [hq1] at c1
          rw [hq3] at c3
          refine Qe Tryz.func102 rfl Tryz.call102 Tryz.ntmps102 (congrArg Array.toList Tryz.results102) (by simp) ?_
          repeat (first | ((first | (with_reducible (first | refine Qa fun K E hK hE => ?_ | refine Qm fun K E hK hE => ?_ | refine Qk ct ?_ | refine Qt ca ?_ | refine Qt cc ?_ | refine FunW.ret (FunW.call c1) ?_ | refine FunW.ret (FunW.call c3) ?_ | refine Xp (FunW.call c2) YL ?_)) | (refine Qy (id := 4) [(0, 0), (1, 0), (2, 0), (3, 0), (4, 1), (5, 0), (6, 0), (7, 0), (8, 0), (9, 1), (10, 0), (11, 0)] mixed (by kernel_rfl) fun K hK => ?_) | (refine Qy (id := 6) [(0, 0), (1, 0), (2, 0), (3, 0), (4, 0), (5, 0), (6, 0), (7, 2)] mixed (by kernel_rfl) fun K hK => ?_)); simp -implicitDefEqProofs only [Qg, Qf, OpW, QI, aop, undef, AS.ev, Qu, AV.QnA, ↓reduceIte, Nat.reduceAdd, Nat.reduceLT, Nat.reduceLeDiff, Nat.reduceEqDiff, Qq, QD, QE, Qz, aBin, ti9, ti29, ei29, ti41, Xc, Q7, Zd, XW, Qo3, QO, f1, f2, f3, f6, ho', hll, ga, gc, z0, z1, z2, b1, b2, b3, b4, hsa1, hsa2]) | (with_reducible (first | refine Qi ?_ | refine Qo ?_)) | ((with_reducible refine hK _ ?_); clear hK) | (refine Qh rfl ?_; simp only [↓reduceIte]))
          simp -implicitDefEqProofs only [Qoi, Qom, List.mapM_nil, Option.pure_def, Qoi, QC, Ql, Qoq]
          exact Xr hi hj hij (.keep (.tup _ fun x hx => by cases hx)) ⟨rfl, rfl⟩
    · cases b3 : (oc != 0)
      · have hq1 : q1 = true := by rw [eq1, b1, b2]; rfl
        have hq3 : q3 = false := by rw [eq3, b2, b3]; rfl
        rw [hq1] at c1
        rw [hq3] at c3
        refine Qe Tryz.func102 rfl Tryz.call102 Tryz.ntmps102 (congrArg Array.toList Tryz.results102) (by simp) ?_
        repeat (first | ((first | (with_reducible (first | refine Qa fun K E hK hE => ?_ | refine Qm fun K E hK hE => ?_ | refine Qk ct ?_ | refine Qt ca ?_ | refine Qt cc ?_ | refine FunW.ret (FunW.call c1) ?_ | refine FunW.ret (FunW.call c3) ?_ | refine Xp (FunW.call c2) YL ?_)) | (refine Qy (id := 4) [(0, 0), (1, 0), (2, 0), (3, 0), (4, 1), (5, 0), (6, 0), (7, 0), (8, 0), (9, 1), (10, 0), (11, 0)] mixed (by kernel_rfl) fun K hK => ?_) | (refine Qy (id := 6) [(0, 0), (1, 0), (2, 0), (3, 0), (4, 0), (5, 0), (6, 0), (7, 2)] mixed (by kernel_rfl) fun K hK => ?_)); simp -implicitDefEqProofs only [Qg, Qf, OpW, QI, aop, undef, AS.ev, Qu, AV.QnA, ↓reduceIte, Nat.reduceAdd, Nat.reduceLT, Nat.reduceLeDiff, Nat.reduceEqDiff, Qq, QD, QE, Qz, aBin, ti9, ti29, ei29, ti41, Xc, Q7, Zd, XW, Qo3, QO, f1, f2, f3, f6, ho', hll, ga, gc, z0, z1, z2, b1, b2, b3, hsa1, hsa2]) | (with_reducible (first | refine Qi ?_ | refine Qo ?_)) | ((with_reducible refine hK _ ?_); clear hK) | (refine Qh rfl ?_; simp only [↓reduceIte]))
        simp -implicitDefEqProofs only [Qoi, Qom, List.mapM_nil, Option.pure_def, Qoi, QC, Ql, Qoq]
        exact Xr hi hj hij (.keep (.tup _ fun x hx => by cases hx)) ⟨rfl, rfl⟩
      · cases b4 : (oc == 1)
        · have hq1 : q1 = true := by rw [eq1, b1, b2]; rfl
          have hq3 : q3 = true := by rw [eq3, b2, b3, b4]; rfl
          rw [hq1] at c1
          rw [hq3] at c3
          refine Qe Tryz.func102 rfl Tryz.call102 Tryz.ntmps102 (congrArg Array.toList Tryz.results102) (by simp) ?_
          repeat (first | ((first | (with_reducible (first | refine Qa fun K E hK hE => ?_ | refine Qm fun K E hK hE => ?_ | refine Qk ct ?_ | refine Qt ca ?_ | refine Qt cc ?_ | refine FunW.ret (FunW.call c1) ?_ | refine FunW.ret (FunW.call c3) ?_ | refine Xp (FunW.call c2) YL ?_)) | (refine Qy (id := 4) [(0, 0), (1, 0), (2, 0), (3, 0), (4, 1), (5, 0), (6, 0), (7, 0), (8, 0), (9, 1), (10, 0), (11, 0)] mixed (by kernel_rfl) fun K hK => ?_) | (refine Qy (id := 6) [(0, 0), (1, 0), (2, 0), (3, 0), (4, 0), (5, 0), (6, 0), (7, 2)] mixed (by kernel_rfl) fun K hK => ?_)); simp -implicitDefEqProofs only [Qg, Qf, OpW, QI, aop, undef, AS.ev, Qu, AV.QnA, ↓reduceIte, Nat.reduceAdd, Nat.reduceLT, Nat.reduceLeDiff, Nat.reduceEqDiff, Qq, QD, QE, Qz, aBin, ti9, ti29, ei29, ti41, Xc, Q7, Zd, XW, Qo3, QO, f1, f2, f3, f6, ho', hll, ga, gc, z0, z1, z2, b1, b2, b3, b4, hsa1, hsa2]) | (with_reducible (first | refine Qi ?_ | refine Qo ?_)) | ((with_reducible refine hK _ ?_); clear hK) | (refine Qh rfl ?_; simp only [↓reduceIte]))
          simp -implicitDefEqProofs only [Qoi, Qom, List.mapM_nil, Option.pure_def, Qoi, QC, Ql, Qoq]
          exact Xr hi hj hij (.keep (.tup _ fun x hx => by cases hx)) ⟨rfl, rfl⟩
        · have hq1 : q1 = true := by rw [eq1, b1, b2]; rfl
          have hq3 : q3 = true := by rw [eq3, b2, b3, b4]; rfl
          rw [hq1] at c1
          rw [hq3] at c3
          refine Qe Tryz.func102 rfl Tryz.call102 Tryz.ntmps102 (congrArg Array.toList Tryz.results102) (by simp) ?_
          repeat (first | ((first | (with_reducible (first | refine Qa fun K E hK hE => ?_ | refine Qm fun K E hK hE => ?_ | refine Qk ct ?_ | refine Qt ca ?_ | refine Qt cc ?_ | refine FunW.ret (FunW.call c1) ?_ | refine FunW.ret (FunW.call c3) ?_ | refine Xp (FunW.call c2) YL ?_)) | (refine Qy (id := 4) [(0, 0), (1, 0), (2, 0), (3, 0), (4, 1), (5, 0), (6, 0), (7, 0), (8, 0), (9, 1), (10, 0), (11, 0)] mixed (by kernel_rfl) fun K hK => ?_) | (refine Qy (id := 6) [(0, 0), (1, 0), (2, 0), (3, 0), (4, 0), (5, 0), (6, 0), (7, 2)] mixed (by kernel_rfl) fun K hK => ?_)); simp -implicitDefEqProofs only [Qg, Qf, OpW, QI, aop, undef, AS.ev, Qu, AV.QnA, ↓reduceIte, Nat.reduceAdd, Nat.reduceLT, Nat.reduceLeDiff, Nat.reduceEqDiff, Qq, QD, QE, Qz, aBin, ti9, ti29, ei29, ti41, Xc, Q7, Zd, XW, Qo3, QO, f1, f2, f3, f6, ho', hll, ga, gc, z0, z1, z2, b1, b2, b3, b4, hsa1, hsa2]) | (with_reducible (first | refine Qi ?_ | refine Qo ?_)) | ((with_reducible refine hK _ ?_); clear hK) | (refine Qh rfl ?_; simp only [↓reduceIte]))
          simp -implicitDefEqProofs only [Qoi, Qom, List.mapM_nil, Option.pure_def, Qoi, QC, Ql, Qoq]
          exact Xr hi hj hij (.keep (.tup _ fun x hx => by cases hx)) ⟨rfl, rfl⟩
end Go.Proofs.YtniljpjjnmkoaaaGreatDoor.Ab
set_option maxRecDepth 4000
namespace Go.Proofs.YtniljpjjnmkoaaaGreatDoor.Ab
open Go.Proofs
theorem QfR (h : AH) (_ : 3 = 3) : Keep h h := Keep.refl h
theorem Qjo {h : AH} {i j : Nat} (hi : i < h.length) (hj : j < h.length) (hij : i ≠ j) (t : T) (ho : t.oper = 0) (hl : t.args.length ≤ 1000000)
    (l0 : t.kind = 0 → -9223372036854775807 ≤ t.int ∧ t.int ≤ 9223372036854775807) (l1 : t.kind = 1 → 0 ≤ t.int ∧ t.int ≤ 1048576)
    (ih : ∀ a ∈ t.args, TIh i j a) (hG : Xm (HB h i j true (.empty))) (u : Bool) (tx : ByteArray)
    (s : ByteArray) (es : s = if t.kind = 0 then decZ t.int else if t.kind = 1 then vOf (decN t.int.toNat) else funT t.name (txts t.args)) (hs : tx.size + s.size ≤ 140737488355328) :
    Wri 102 [.ptr i 0 0, t.av] h i j u tx s := by
  have eav : t.av = .agg [.i t.kind, .i t.int, .v (.string t.name), .sl 4 (avs t.args) none] := by cases t; rfl
  obtain ⟨L, hL⟩ : ∃ L : AH, L = [AB.cells 129 1 [.ptr i 0 0], AB.cells 41 4 [t.av]] := ⟨_, rfl⟩
  have hlL : (h ++ L).length = h.length + 2 := by rw [hL]; simp
  have hi' : i < (h ++ L).length := by omega
  have hj' : j < (h ++ L).length := by omega
  have gapp := fun (u : Bool) (tx : ByteArray) (L : AH) => Qhr (h := h) (i := i) (j := j) hi hj u tx L
  have hG' : Xm (HB (h ++ L) i j true (.empty)) := by rw [gapp]; exact HasG.app hG _
  have hG2 : Xm (HB (h ++ L) i j u tx) := Qml hij hG'
  have ct := Qah t (by simp only [maxLen]; omega)
  rw [ho, eav] at ct
  have f1 := Qed h i j
  have f2 := fun u tx L => QcO h i j u tx L
  have f3 := fun u tx L => Qf0 h i j u tx L
  have f6 := fun u tx L => Qci (h := h) hi hij u tx L
  by_cases k0 : t.kind = 0
  · rw [if_pos k0] at es
    rw [k0] at eav ct
    have c1 := Qii t.int (by have := l0 k0; omega) (l0 k0).2 _ hG2
    have c2 := wstr (h := h ++ L) hi' hj' hij u tx s hs
    rw [es] at c2
    rw [gapp, hL, eav] at c1
    rw [gapp, gapp, hL, eav] at c2
    rw [eav, es]
    refine Qe Tryz.func102 rfl Tryz.call102 Tryz.ntmps102 (congrArg Array.toList Tryz.results102) (by simp) ?_
    repeat (first | ((first | (with_reducible (first | refine Qa fun K E hK hE => ?_ | refine Qm fun K E hK hE => ?_ | refine Qk ct ?_ | refine Qt ct ?_ | refine Xp (FunW.call c1) (QfR _) ?_ | refine Xp (FunW.call c2) YL ?_)) | (refine Qy (id := 4) [(0, 0), (1, 0), (2, 0), (3, 0), (4, 1), (5, 0), (6, 0), (7, 0), (8, 0), (9, 1), (10, 0), (11, 0)] mixed (by kernel_rfl) fun K hK => ?_) | (refine QH (id := 4) [(0, 0), (1, 0), (2, 0), (3, 0), (4, 1), (5, 0), (6, 0), (7, 0), (8, 0), (9, 1), (10, 0), (11, 0)] mixed (by kernel_rfl) fun K hK => ?_) | (refine Qy (id := 6) [(0, 0), (1, 0), (2, 0), (3, 0), (4, 0), (5, 0), (6, 0), (7, 2)] mixed (by kernel_rfl) fun K hK => ?_) | (refine QH (id := 6) [(0, 0), (1, 0), (2, 0), (3, 0), (4, 0), (5, 0), (6, 0), (7, 2)] mixed (by kernel_rfl) fun K hK => ?_) | (refine Qy (id := 9) [(0, 0), (1, 0), (2, 0), (3, 0), (4, 0), (5, 3), (6, 2)] mixed (by kernel_rfl) fun K hK => ?_) | (refine QH (id := 9) [(0, 0), (1, 0), (2, 0), (3, 0), (4, 0), (5, 3), (6, 2)] mixed (by kernel_rfl) fun K hK => ?_) | (refine Qy (id := 11) [(0, 0), (1, 0), (2, 0), (3, 0), (4, 0), (5, 3), (6, 2)] mixed (by kernel_rfl) fun K hK => ?_) | (refine QH (id := 11) [(0, 0), (1, 0), (2, 0), (3, 0), (4, 0), (5, 3), (6, 2)] mixed (by kernel_rfl) fun K hK => ?_)); simp -implicitDefEqProofs only [Qg, Qf, OpW, QI, aop, undef, AS.ev, Qu, AV.QnA, ↓reduceIte, Nat.reduceAdd, Nat.reduceLT, Nat.reduceLeDiff, Nat.reduceEqDiff, Qq, QD, QE, aBin, ti3, ti41, QV, Xa, Zd, XW, QO, f1, f2, f3, f6]) | (with_reducible (first | refine Qd fun K hK => ?_ | refine Qi ?_ | refine Qj ?_ | refine QP ?_ | refine QQ ?_ | refine Qn ?_ | refine QB ?_ | refine Qb ?_ | refine Qp ?_ | refine Qw ?_ | refine Qo ?_ | refine Qs ?_ | refine Qv ?_ | refine QL rfl ?_)) | (with_reducible (first | refine hK _ ?_ | (clear hK; refine hK _ ?_) | (clear hK; clear hK; refine hK _ ?_) | (clear hK; clear hK; clear hK; refine hK _ ?_)); clear hK) | (refine Qh rfl ?_; simp only [↓reduceIte, Qok]) | (intro (b : Bool); cases b))
    simp -implicitDefEqProofs only [Qoi, Qom, List.mapM_nil, Option.pure_def, Qoi, QC, Ql, Qoq]
    exact Xr hi hj hij (.keep (.tup _ fun x hx => by cases hx)) ⟨rfl, rfl⟩
  · rw [if_neg k0] at es
    have m0 : (t.kind == 0) = false := by simpa using k0
    by_cases k1 : t.kind = 1
    · rw [if_pos k1] at es
      rw [k1] at eav ct
      have z1 : ((1 : Int) == 0) = false := by decide
      have en : t.int = (t.int.toNat : Int) := by have := l1 k1; omega
      have c1 := QfQ t.int.toNat (by have := l1 k1; omega) _ hG2
      rw [← en] at c1
      have c2 := wstr (h := h ++ L) hi' hj' hij u tx s hs
      rw [es] at c2
      rw [gapp, hL, eav] at c1
      rw [gapp, gapp, hL, eav] at c2
      rw [eav, es]
      refine Qe Tryz.func102 rfl Tryz.call102 Tryz.ntmps102 (congrArg Array.toList Tryz.results102) (by simp) ?_
      repeat (first | ((first | (with_reducible (first | refine Qa fun K E hK hE => ?_ | refine Qm fun K E hK hE => ?_ | refine Qk ct ?_ | refine Qt ct ?_ | refine Xp (FunW.call c1) (QfR _) ?_ | refine Xp (FunW.call c2) YL ?_)) | (refine Qy (id := 4) [(0, 0), (1, 0), (2, 0), (3, 0), (4, 1), (5, 0), (6, 0), (7, 0), (8, 0), (9, 1), (10, 0), (11, 0)] mixed (by kernel_rfl) fun K hK => ?_) | (refine QH (id := 4) [(0, 0), (1, 0), (2, 0), (3, 0), (4, 1), (5, 0), (6, 0), (7, 0), (8, 0), (9, 1), (10, 0), (11, 0)] mixed (by kernel_rfl) fun K hK => ?_) | (refine Qy (id := 6) [(0, 0), (1, 0), (2, 0), (3, 0), (4, 0), (5, 0), (6, 0), (7, 2)] mixed (by kernel_rfl) fun K hK => ?_) | (refine QH (id := 6) [(0, 0), (1, 0), (2, 0), (3, 0), (4, 0), (5, 0), (6, 0), (7, 2)] mixed (by kernel_rfl) fun K hK => ?_) | (refine Qy (id := 9) [(0, 0), (1, 0), (2, 0), (3, 0), (4, 0), (5, 3), (6, 2)] mixed (by kernel_rfl) fun K hK => ?_) | (refine QH (id := 9) [(0, 0), (1, 0), (2, 0), (3, 0), (4, 0), (5, 3), (6, 2)] mixed (by kernel_rfl) fun K hK => ?_) | (refine Qy (id := 11) [(0, 0), (1, 0), (2, 0), (3, 0), (4, 0), (5, 3), (6, 2)] mixed (by kernel_rfl) fun K hK => ?_) | (refine QH (id := 11) [(0, 0), (1, 0), (2, 0), (3, 0), (4, 0), (5, 3), (6, 2)] mixed (by kernel_rfl) fun K hK => ?_)); simp -implicitDefEqProofs only [Qg, Qf, OpW, QI, aop, undef, AS.ev, Qu, AV.QnA, ↓reduceIte, Nat.reduceAdd, Nat.reduceLT, Nat.reduceLeDiff, Nat.reduceEqDiff, Qq, QD, QE, aBin, ti3, ti41, QV, Xa, Zd, XW, QO, f1, f2, f3, f6, z1]) | (with_reducible (first | refine Qd fun K hK => ?_ | refine Qi ?_ | refine Qj ?_ | refine QP ?_ | refine QQ ?_ | refine Qn ?_ | refine QB ?_ | refine Qb ?_ | refine Qp ?_ | refine Qw ?_ | refine Qo ?_ | refine Qs ?_ | refine Qv ?_ | refine QL rfl ?_)) | (with_reducible (first | refine hK _ ?_ | (clear hK; refine hK _ ?_) | (clear hK; clear hK; refine hK _ ?_) | (clear hK; clear hK; clear hK; refine hK _ ?_)); clear hK) | (refine Qh rfl ?_; simp only [↓reduceIte, Qok]) | (intro (b : Bool); cases b))
      simp -implicitDefEqProofs only [Qoi, Qom, List.mapM_nil, Option.pure_def, Qoi, QC, Ql, Qoq]
      exact Xr hi hj hij (.keep (.tup _ fun x hx => by cases hx)) ⟨rfl, rfl⟩
    · rw [if_neg k1] at es
      have m1 : (t.kind == 1) = false := by simpa using k1
      have c1 := QcL (h := h ++ L) hi' hj' hij t.args hl t.name (fun a ha h hi hj hG tx hs => ih a ha h hi hj hG true tx hs) hG' u tx (by rw [← es]; exact hs)
      rw [Wri, ← es, gapp, gapp, hL, eav] at c1
      rw [eav]
      refine Qe Tryz.func102 rfl Tryz.call102 Tryz.ntmps102 (congrArg Array.toList Tryz.results102) (by simp) ?_
      repeat (first | ((first | (with_reducible (first | refine Qa fun K E hK hE => ?_ | refine Qm fun K E hK hE => ?_ | refine Qk ct ?_ | refine Qt ct ?_ | refine FunW.ret (FunW.call c1) ?_)) | (refine Qy (id := 4) [(0, 0), (1, 0), (2, 0), (3, 0), (4, 1), (5, 0), (6, 0), (7, 0), (8, 0), (9, 1), (10, 0), (11, 0)] mixed (by kernel_rfl) fun K hK => ?_) | (refine QH (id := 4) [(0, 0), (1, 0), (2, 0), (3, 0), (4, 1), (5, 0), (6, 0), (7, 0), (8, 0), (9, 1), (10, 0), (11, 0)] mixed (by kernel_rfl) fun K hK => ?_) | (refine Qy (id := 6) [(0, 0), (1, 0), (2, 0), (3, 0), (4, 0), (5, 0), (6, 0), (7, 2)] mixed (by kernel_rfl) fun K hK => ?_) | (refine QH (id := 6) [(0, 0), (1, 0), (2, 0), (3, 0), (4, 0), (5, 0), (6, 0), (7, 2)] mixed (by kernel_rfl) fun K hK => ?_) | (refine Qy (id := 9) [(0, 0), (1, 0), (2, 0), (3, 0), (4, 0), (5, 3), (6, 2)] mixed (by kernel_rfl) fun K hK => ?_) | (refine QH (id := 9) [(0, 0), (1, 0), (2, 0), (3, 0), (4, 0), (5, 3), (6, 2)] mixed (by kernel_rfl) fun K hK => ?_) | (refine Qy (id := 11) [(0, 0), (1, 0), (2, 0), (3, 0), (4, 0), (5, 3), (6, 2)] mixed (by kernel_rfl) fun K hK => ?_) | (refine QH (id := 11) [(0, 0), (1, 0), (2, 0), (3, 0), (4, 0), (5, 3), (6, 2)] mixed (by kernel_rfl) fun K hK => ?_)); simp -implicitDefEqProofs only [Qg, Qf, OpW, QI, aop, undef, AS.ev, Qu, AV.QnA, ↓reduceIte, Nat.reduceAdd, Nat.reduceLT, Nat.reduceEqDiff, Qq, QD, QE, aBin, ti3, ti9, ti29, ti41, QV, Xc, Q7, Zd, f1, f2, f3, m0, m1]) | (with_reducible (first | refine Qd fun K hK => ?_ | refine Qi ?_ | refine Qj ?_ | refine QP ?_ | refine QQ ?_ | refine Qn ?_ | refine QB ?_ | refine Qb ?_ | refine Qp ?_ | refine Qw ?_ | refine Qo ?_ | refine Qs ?_ | refine Qv ?_ | refine QL rfl ?_)) | (with_reducible (first | refine hK _ ?_ | (clear hK; refine hK _ ?_) | (clear hK; clear hK; refine hK _ ?_) | (clear hK; clear hK; clear hK; refine hK _ ?_)); clear hK) | (refine Qh rfl ?_; simp only [↓reduceIte, Qok]) | (intro (b : Bool); cases b))
      simp -implicitDefEqProofs only [Qoi, Qom, List.mapM_nil, Option.pure_def, Qoi, QC, Ql, Qoq]
      exact Xr hi hj hij (.keep (.tup _ fun x hx => by cases hx)) ⟨rfl, rfl⟩
mutual
theorem T.QnY : ∀ (t : T), t.lex → ∀ (i j : Nat), i ≠ j → TIh i j t
  | .mk k x n l, hx, i, j, hij => fun h hi hj hG u tx hs => by
    obtain ⟨l0, l1, hl, hn, hll⟩ := hx
    have ih := QeW l hll i j hij
    by_cases ho : (T.mk k x n l).oper = 0
    · have es : (T.mk k x n l).txt = if k = 0 then decZ x else if k = 1 then vOf (decN x.toNat) else funT n (txts l) := by rw [T.txt, if_neg (by simpa using ho)]
      exact Qjo hi hj hij (T.mk k x n l) ho hl l0 l1 ih hG u tx _ es hs
    · have hk : k = 2 ∧ l.length = 2 ∧ ofB n ≠ 0 := by
        simp only [T.oper] at ho
        split at ho
        · exact absurd rfl ho
        · rename_i hq
          exact ⟨Decidable.byContradiction fun e => hq (.inl e), Decidable.byContradiction fun e => hq (.inr e), ho⟩
      obtain ⟨rfl, h2, hon⟩ := hk
      match l, h2, hll, ih with
      | [a, c], _, hll, ih =>
        have et : (T.mk 2 x n [a, c]).txt = binT (ofB n) n a.oper c.oper a.txt c.txt := by rw [T.txt, if_pos ho]; rfl
        rw [et] at hs ⊢
        have la : a.args.length ≤ 1000000 := by cases a; exact hll.1.2.2.1
        have lc : c.args.length ≤ 1000000 := by cases c; exact hll.2.1.2.2.1
        exact Qle hi hj hij n x a c hn hon la lc (ih a (by simp)) (ih c (by simp)) hG u tx hs
theorem QeW : ∀ (l : List T), lexL l → ∀ (i j : Nat), i ≠ j → ∀ a ∈ l, TIh i j a
  | [], _, _, _, _, a, ha => by cases ha
  | t :: l, hx, i, j, hij, a, ha => by
    have h1 := T.QnY t hx.1 i j hij
    have h2 := QeW l hx.2 i j hij
    rcases List.mem_cons.1 ha with e | e
    · rw [e]; exact h1
    · exact h2 a e
end
end Go.Proofs.YtniljpjjnmkoaaaGreatDoor.Ab
namespace Go.Proofs.YtniljpjjnmkoaaaGreatDoor.Ab
theorem Qm4 {c : Cx} (hst : St c) (id ty e : Nat) (p : Value) (hb : c.h[id]? = some (.cells ty 2 [.agg [.v p, .v (.slice none 0 0)]])) :
    ∃ c2, Ev c c2 ∧ St c2 ∧ c2.h = (c.h ++ [AB.grow e 1 0]).set id (AB.cells ty 2 [.agg [.v p, .sl 1 [] (some c.h.length)]]) ∧ c2.w = c.w := by
  obtain ⟨hev, hst1⟩ := Qfs hst e 1
  have hlt := QG hb
  have hb1 : (c.add c.w (.grow e 1 0) none).h[id]? = some (.cells ty 2 [.agg [.v p, .v (.slice none 0 0)]]) := by
    simp only [Cx.add]; rw [List.getElem?_append_left hlt]; exact hb
  obtain ⟨B, cur, hρ, hcur, h3, h4⟩ := hst1.blocks id _ hb1
  have hev2 := Ev.turn (b' := .cells ty 2 [.agg [.v p, .sl 1 [] (some c.h.length)]]) hst1 hb1 rfl hρ (w := c.w) rfl rfl rfl rfl (fun _ _ => rfl) (.inr ⟨_, rfl, rfl, fun _ cur _ h => ⟨cur, h, rfl⟩⟩)
  have htok : ((c.add c.w (.grow e 1 0) none).turn c.w id (.cells ty 2 [.agg [.v p, .sl 1 [] (some c.h.length)]])).tokNil c.h.length 1 := by
    refine ⟨by simp [Cx.turn, Cx.add], fun e2 s2 n2 hg2 => ?_⟩
    simp only [Cx.turn, Cx.add] at hg2
    rw [List.getElem?_set_ne (by omega), List.getElem?_append_right (Nat.le_refl _), Nat.sub_self] at hg2
    simp at hg2
    exact ⟨hg2.2.1.symm, fun _ => by simp [Cx.turn, Cx.add]⟩
  have hfl : flat [AV.agg [.v p, .v (.slice none 0 0)]] = [.v p, .v (.slice none 0 0)] := rfl
  have hst2 := St.turn (b' := .cells ty 2 [.agg [.v p, .sl 1 [] (some c.h.length)]]) hst1 hb1 rfl hρ (w := c.w) (fun _ _ => rfl) hev2 ⟨B, cur, hρ, hcur, (by simp [AV.cells]), by
    intro j a' hj
    have hj' : [AV.v p, .sl 1 [] (some c.h.length)][j]? = some a' := hj
    match j with
    | 0 =>
      simp only [Qog, Qom] at hj'
      subst hj'
      obtain ⟨u, g1, g2, g3⟩ := h4 0 (.v p) (by rw [hfl]; rfl)
      exact ⟨u, g1, g2, g3.ev hst1 hev2⟩
    | 1 =>
      simp only [Qoh, Qog, Qom] at hj'
      subst hj'
      obtain ⟨u, g1, g2, g3⟩ := h4 1 (.v (.slice none 0 0)) (by rw [hfl]; rfl)
      cases g3
      exact ⟨_, g1, g2, .slnil _ _ fun b hb => by cases hb; exact htok⟩
    | j + 2 => simp at hj'⟩
  exact ⟨_, Ev.trans hst hev hev2, hst2, rfl, rfl⟩
theorem QgB {P : Program} {fv : AV} {args : List AV} {h : AH} {Q : AOut → AH → Prop} (id ty e : Nat) (p : Value) (hb : h[id]? = some (.cells ty 2 [.agg [.v p, .v (.slice none 0 0)]]))
    (H : FunW P fv args ((h ++ [AB.grow e 1 0]).set id (AB.cells ty 2 [.agg [.v p, .sl 1 [] (some h.length)]])) Q) : FunW P fv args h Q := by
  intro F n c v vals hF hs hh hv hvs o a next Qx h1 h2
  subst hh
  obtain ⟨c2, hev, hst2, hh2, hw⟩ := Qm4 hs id ty e p hb
  rw [← hw]
  exact H F n c2 v vals hF hst2 hh2 (hv.ev hs hev) (hvs.ev hs hev) o a next Qx (fun r c' x hQ he => h1 r c' x hQ (Ev.trans hs hev he)) (fun r c' x hQ he => h2 r c' x hQ (Ev.trans hs hev he))
end Go.Proofs.YtniljpjjnmkoaaaGreatDoor.Ab
set_option maxRecDepth 4000
namespace Go.Proofs.YtniljpjjnmkoaaaGreatDoor.Ab
open Go.Proofs
theorem Qkf (fv : AV) : Pure Tryz.prog 100 [.b false, fv] (.v (.string { data := #[] })) := by
  intro h
  refine Qe Tryz.func100 rfl Tryz.call100 Tryz.ntmps100 (congrArg Array.toList Tryz.results100) (by simp) ?_
  repeat (first | ((first | (with_reducible (first | refine Qa fun K E hK hE => ?_ | refine Qm fun K E hK hE => ?_))); simp -implicitDefEqProofs only [Qg, Qf, OpW, aop, undef, AS.ev, Qu, ↓reduceIte, Nat.reduceLT, Nat.reduceEqDiff]) | (with_reducible (first | refine Qd fun K hK => ?_ | refine Qi ?_ | refine Qj ?_ | refine QP ?_ | refine QQ ?_ | refine Qn ?_ | refine QB ?_ | refine Qb ?_ | refine Qp ?_ | refine Qw ?_ | refine Qo ?_ | refine Qs ?_ | refine Qv ?_ | refine QL rfl ?_)) | (with_reducible (first | refine hK _ ?_ | (clear hK; refine hK _ ?_) | (clear hK; clear hK; refine hK _ ?_) | (clear hK; clear hK; clear hK; refine hK _ ?_)); clear hK) | (refine Qh rfl ?_; simp only [↓reduceIte]) | (intro (b : Bool); cases b))
  simp only [QC, Ql, Qr, upd, ↓reduceIte, Qom, Qoq]; first | refine Qc (htake _ _) (.keep (.v _)) ⟨rfl, rfl⟩ | refine Qc List.take_length (.keep (.v _)) ⟨rfl, rfl⟩
theorem Qhs (fv r : AV) (s : ByteArray) (h : AH) (h0 : 0 < s.size) (hs : s.size ≤ 140737488355328)
    (hw : FunW Tryz.prog fv [.ptr h.length 0 0] (HB (h ++ [AB.dead, AB.dead]) h.length (h.length + 1) false .empty) fun o h' => o = .ret r ∧ h' = HB (h ++ [AB.dead, AB.dead]) h.length (h.length + 1) true s) :
    Q9 Tryz.prog 100 [.b true, fv] h fun o h' => o = .ret (.v (.string s)) ∧ h' = h := by
  have hi : h.length < (h ++ [AB.dead, AB.dead]).length := by simp
  have hj : h.length + 1 < (h ++ [AB.dead, AB.dead]).length := by simp
  have e0 : HB (h ++ [AB.dead, AB.dead]) h.length (h.length + 1) false .empty = h ++ [AB.cells 162 2 [.agg [.v (.pointer none), .sl 1 [] (some (h.length + 1))]], AB.grow 5 1 0] := by
    simp [HB, hs2, bw]; rfl
  have e1 : HB (h ++ [AB.dead, AB.dead]) h.length (h.length + 1) true s = h ++ [bw 162 h.length (h.length + 1) true s, AB.grow 5 1 s.size] := by
    simp [HB, hs2]
  have c1 := Qim (ty := 162) (i := h.length) (j := h.length + 1) (by omega) s h0 hs (h ++ [AB.dead, AB.dead]) hi hj
  have e2 : hs2 (h ++ [AB.dead, AB.dead]) h.length (bw 162 h.length (h.length + 1) true s) (h.length + 1) .gone = h ++ [bw 162 h.length (h.length + 1) true s, AB.gone] := by
    simp [hs2]
  rw [e2, ← HB, e1] at c1
  rw [e1, e0] at hw
  refine Qe Tryz.func100 rfl Tryz.call100 Tryz.ntmps100 (congrArg Array.toList Tryz.results100) (by simp) ?_
  repeat (first | ((first | (with_reducible (first | refine Qa fun K E hK hE => ?_ | refine Qm fun K E hK hE => ?_))); simp -implicitDefEqProofs only [Qg, Qf, OpW, aop, undef, AS.ev, Qu, AV.QnA, ↓reduceIte, Nat.reduceAdd, Nat.reduceLT, Nat.reduceEqDiff, Qnc]) | (with_reducible (first | refine Qd fun K hK => ?_ | refine Qi ?_ | refine Qj ?_ | refine QP ?_ | refine QQ ?_ | refine Qn ?_ | refine QB ?_ | refine Qb ?_ | refine Qp ?_ | refine Qw ?_ | refine Qo ?_ | refine Qs ?_ | refine Qv ?_ | refine QL rfl ?_)) | (with_reducible (first | refine hK _ ?_ | (clear hK; refine hK _ ?_) | (clear hK; clear hK; refine hK _ ?_) | (clear hK; clear hK; clear hK; refine hK _ ?_)); clear hK) | (refine Qh rfl ?_; simp only [↓reduceIte, Qok]) | (intro (b : Bool); cases b))
  refine QgB h.length 162 5 (.pointer none) (by simp) ?_
  refine FunW.ret (h' := h ++ [bw 162 h.length (h.length + 1) true s, AB.grow 5 1 s.size]) (r := r) (by simpa using hw) ?_
  rw [bw1] at c1 ⊢
  simp -implicitDefEqProofs only [Q1, QI, Q2, Nat.reduceLT]
  repeat (first | ((first | (with_reducible (first | refine Qa fun K E hK hE => ?_ | refine Qm fun K E hK hE => ?_ | refine FunW.ret (FunW.call c1) ?_))); simp -implicitDefEqProofs only [Qg, Qf, OpW, QI, aop, AS.ev, ↓reduceIte, Nat.reduceLT, Nat.reduceEqDiff, Qq, XW]) | (with_reducible (first | refine Qd fun K hK => ?_ | refine Qi ?_ | refine Qj ?_ | refine QP ?_ | refine QQ ?_ | refine Qn ?_ | refine QB ?_ | refine Qb ?_ | refine Qp ?_ | refine Qw ?_ | refine Qo ?_ | refine Qs ?_ | refine Qv ?_ | refine QL rfl ?_)) | (with_reducible (first | refine hK _ ?_ | (clear hK; refine hK _ ?_) | (clear hK; clear hK; refine hK _ ?_) | (clear hK; clear hK; clear hK; refine hK _ ?_)); clear hK) | (refine Qh rfl ?_; simp only [↓reduceIte, Qok]) | (intro (b : Bool); cases b))
  simp only [QC, Ql, Qr, upd, ↓reduceIte, Qom, Qoq]; first | refine Qc (htake _ _) (.keep (.v _)) ⟨rfl, rfl⟩ | refine Qc List.take_length (.keep (.v _)) ⟨rfl, rfl⟩
end Go.Proofs.YtniljpjjnmkoaaaGreatDoor.Ab
set_option maxRecDepth 4000
namespace Go.Proofs.YtniljpjjnmkoaaaGreatDoor.Ab
open Go.Proofs
theorem Zp {s : ByteArray} (h : Yd s = true) : 1 ≤ s.size ∧ s.size ≤ 40 := by
  rw [Yd, Bool.and_eq_true, decide_eq_true_eq] at h
  exact ⟨h.1.1, h.1.2.1⟩
theorem QbG (b : Bool) (x : ByteArray) : (encB b x).size ≤ x.size + 2 := by
  rw [encB]; split
  · rw [QA, QA]; have : lpa.size = 1 := rfl; have : rpa.size = 1 := rfl; omega
  · omega
theorem QeX (l : List ByteArray) : ∀ f, (X5 f l).size ≤ (l.map fun x => x.size + 2).sum := by
  induction l with
  | nil => intro f; rw [X5]; simp
  | cons x l ih =>
    intro f
    have h1 := ih false
    rw [Qio f _ x l rfl, List.map_cons, List.sum_cons]
    split <;> omega
theorem QkU (t : ByteArray) : (vOf t).size = t.size + 1 := by rw [vOf, QA]; have : ({ data := #[86] } : ByteArray).size = 1 := rfl; omega
theorem Qcz {s : ByteArray} (h : Y1 s = true) : s.size = 0 := by
  rw [Y1, Qbx, decide_eq_true_eq] at h
  exact h
mutual
theorem T.QnN : ∀ (t : T) (b d : Int), (t.run b d).1 = true → t.lex ∧ (t.txt.size : Int) + 4 ≤ 60 * (b - (t.run b d).2) ∧ 0 < t.txt.size ∧ (t.run b d).2 ≤ b
  | .mk k i n l, b, d, h => by
    rw [T.run] at h ⊢
    split at h
    · cases h
    rename_i h1
    rw [if_neg h1]
    split at h
    · rename_i k0
      subst k0
      rw [if_pos rfl]
      simp only [Bool.and_eq_true, decide_eq_true_eq] at h
      obtain ⟨⟨hr, hn⟩, hl⟩ := h
      have hl' : l = [] := by simpa using hl
      subst hl'
      have hn' := Qcz hn
      have hz := Qjq i (by omega) (by omega)
      have hp := Qlg i
      have et : (T.mk 0 i n []).txt = decZ i := by rw [T.txt, if_neg (by simp [T.oper, T.kind]), if_pos rfl]
      rw [et]
      refine ⟨⟨fun _ => by omega, fun e => (by cases e), by simp, by omega, trivial⟩, ?_, hp, ?_⟩ <;> simp only <;> omega
    · rename_i k0
      rw [if_neg k0]
      split at h
      · rename_i k1
        subst k1
        rw [if_pos rfl]
        simp only [Bool.and_eq_true, decide_eq_true_eq] at h
        obtain ⟨⟨hr, hn⟩, hl⟩ := h
        have hl' : l = [] := by simpa using hl
        subst hl'
        have hn' := Qcz hn
        have hz := Qcr (n := i.toNat) (by omega)
        have et : (T.mk 1 i n []).txt = vOf (decN i.toNat) := by rw [T.txt, if_neg (by simp [T.oper, T.kind]), if_neg k0, if_pos rfl]
        rw [et, QkU]
        refine ⟨⟨fun e => (by cases e), fun _ => hr, by simp, by omega, trivial⟩, ?_, by omega, ?_⟩ <;> simp only <;> omega
      · rename_i k1
        rw [if_neg k1]
        split at h
        · rename_i k2
          subst k2
          rw [if_pos rfl]
          split at h
          · cases h
          rename_i h3
          rw [if_neg h3]
          split at h
          · cases h
          rename_i h4
          rw [if_neg h4]
          have hL := Qct l (b - 1) (d - 1) h
          have hll : l.length ≤ 6 := by omega
          have hns : 1 ≤ n.size ∧ n.size ≤ 40 := by
            simp only [Bool.not_eq_true', Bool.and_eq_true, not_and, Bool.not_eq_false, decide_eq_true_eq] at h4
            cases hrb : Yd n with
            | true => exact Zp hrb
            | false =>
              rw [hrb] at h4
              have hop : opB n = true := by
                cases ho : opB n with
                | true => rfl
                | false => rw [ho] at h4; simp at h4
              by_cases hs1 : n.size = 1
              · omega
              · rw [Qcs hs1] at hop; cases hop
          refine ⟨⟨fun e => (by cases e), fun e => (by cases e), by omega, by omega, hL.1⟩, ?_⟩
          by_cases ho : (T.mk 2 i n l).oper = 0
          · have et : (T.mk 2 i n l).txt = funT n (txts l) := by rw [T.txt, if_neg (by simpa using ho), if_neg k0, if_neg k1]
            rw [et, funT, QA]
            have e1 := QbG (decide (0 < (txts l).length)) (X5 true (txts l))
            have e2 := QeX (txts l) true
            have e3 := hL.2.1
            refine ⟨?_, ?_, ?_⟩ <;> omega
          · have hk : l.length = 2 := by
              simp only [T.oper] at ho
              split at ho
              · exact absurd rfl ho
              · rename_i hq; exact Decidable.byContradiction fun e => hq (.inr e)
            match l, hk, hL with
            | [a, c], _, hL =>
              have et : (T.mk 2 i n [a, c]).txt = binT (ofB n) n a.oper c.oper a.txt c.txt := by rw [T.txt, if_pos ho]; rfl
              rw [et, binT]
              simp only [QA]
              have hsp : ({ data := #[32] } : ByteArray).size = 1 := rfl
              have e1 := QbG ((a.oper == 1) && (ofB n == 2)) a.txt
              have e2 := QbG ((c.oper != 0) && ((c.oper == 1) || (ofB n == 2))) c.txt
              have e3 := hL.2.1
              have e4 := hL.2.2
              simp only [txts, Qov, Qoz, List.sum_cons, List.sum_nil] at e3
              refine ⟨?_, ?_, ?_⟩ <;> omega
        · cases h
theorem Qct : ∀ (l : List T) (b d : Int), (runL l b d).1 = true → lexL l ∧ ((((txts l).map fun x => x.size + 2).sum : Nat) : Int) ≤ 60 * (b - (runL l b d).2) ∧ (runL l b d).2 ≤ b
  | [], b, d, h => by rw [runL]; exact ⟨trivial, by simp [txts], Int.le_refl _⟩
  | t :: l, b, d, h => by
    rw [runL] at h ⊢
    split at h
    · rename_i h1
      rw [if_pos h1]
      have ht := T.QnN t b d h1
      have hl := Qct l _ d h
      refine ⟨⟨ht.1, hl.1⟩, ?_, ?_⟩
      · rw [txts, List.map_cons, List.sum_cons]
        have := hl.2.1
        have := ht.2.1
        omega
      · have := hl.2.2; have := ht.2.2.2; omega
    · cases h
end
end Go.Proofs.YtniljpjjnmkoaaaGreatDoor.Ab
set_option maxRecDepth 4000
namespace Go.Proofs.YtniljpjjnmkoaaaGreatDoor.Ab
open Go.Proofs
theorem QmV {h : AH} (hG : Xm h) (u : Bool) (tx : ByteArray) : Xm (HB (h ++ [AB.dead, AB.dead]) h.length (h.length + 1) u tx) := by
  obtain ⟨k, ty, fr, e⟩ := hG
  refine ⟨k, ty, fr, ?_⟩
  have hk := QG e
  rw [HB, YQ _ _ (by omega) (by omega), List.getElem?_append_left hk, e]
section
variable {h : AH} {i j p : Nat} (hi : i < h.length) (hj : j < h.length) (hij : i ≠ j) (hpi : i ≠ p) (hpj : j ≠ p)
theorem Qi5 (hi : i < h.length) (hj : j < h.length) (hij : i ≠ j) (hpi : i ≠ p) (hpj : j ≠ p) (g : G) (gp : h[p]? = some (.cells 45 2 [g.atom])) (hx : lexL g.args) (hl : g.args.length ≤ 1000000)
    (hG : Xm (HB h i j true (.empty))) (u : Bool) (tx : ByteArray) (hs : tx.size + (funT g.name (txts g.args)).size ≤ 140737488355328) :
    Wri 103 [.ptr i 0 0, .ptr p 0 0] h i j u tx (funT g.name (txts g.args)) := by
  have k1 : ∀ u tx, (HB h i j u tx)[p]? = some (.cells 45 2 [.agg [.v (.string g.name), .sl 4 (avs g.args) none]]) := fun u tx => by
    rw [HB, YQ _ _ hpi hpj, gp]; rfl
  have c1 := QcL hi hj hij g.args hl g.name (fun a ha h hi hj hG tx hs => QeW g.args hx i j hij a ha h hi hj hG true tx hs) hG u tx hs
  rw [Wri] at c1
  refine Qe Tryz.func103 rfl Tryz.call103 Tryz.ntmps103 (congrArg Array.toList Tryz.results103) (by simp) ?_
  repeat (first | ((first | (with_reducible (first | refine Qa fun K E hK hE => ?_ | refine Qm fun K E hK hE => ?_ | refine FunW.ret (FunW.call c1) ?_))); simp -implicitDefEqProofs only [Qg, Qf, OpW, QI, aop, undef, AS.ev, Qu, ↓reduceIte, Nat.reduceLT, Nat.reduceEqDiff, Qq, QD, QE, ti9, ti29, YM, YN, k1]) | (with_reducible (first | refine Qd fun K hK => ?_ | refine Qi ?_ | refine Qj ?_ | refine QP ?_ | refine QQ ?_ | refine Qn ?_ | refine QB ?_ | refine Qb ?_ | refine Qp ?_ | refine Qw ?_ | refine Qo ?_ | refine Qs ?_ | refine Qv ?_ | refine QL rfl ?_)) | (with_reducible (first | refine hK _ ?_ | (clear hK; refine hK _ ?_) | (clear hK; clear hK; refine hK _ ?_) | (clear hK; clear hK; clear hK; refine hK _ ?_)); clear hK) | (refine Qh rfl ?_; simp only [↓reduceIte, Qok]) | (intro (b : Bool); cases b))
  simp -implicitDefEqProofs only [Qoi, Qom, List.mapM_nil, Option.pure_def, Qoi, QC, Ql, Qoq]
  exact .inr ⟨rfl, rfl⟩
end
end Go.Proofs.YtniljpjjnmkoaaaGreatDoor.Ab
set_option maxRecDepth 4000
namespace Go.Proofs.YtniljpjjnmkoaaaGreatDoor.Ab
open Go.Proofs
end Go.Proofs.YtniljpjjnmkoaaaGreatDoor.Ab
set_option maxRecDepth 4000
namespace Go.Proofs.YtniljpjjnmkoaaaGreatDoor.Ab
open Go.Proofs
def txtA (g : G) : ByteArray := if QS g = true then funT g.name (txts g.args) else { data := #[] }
theorem QjT {s : ByteArray} {l : List ByteArray} (h0 : 1 ≤ s.size) : 1 ≤ (funT s l).size := by rw [funT, QA]; omega
theorem QlZ (s : ByteArray) (l : List ByteArray) : (funT s l).size ≤ s.size + 2 + (l.map fun x => x.size + 2).sum := by
  rw [funT, QA]
  have e1 := QbG (decide (0 < l.length)) (X5 true l)
  have e2 := QeX l true
  omega
theorem Qhm {g : G} (h : QS g = true) : lexL g.args ∧ g.args.length ≤ 6 ∧ 1 ≤ (funT g.name (txts g.args)).size ∧ (funT g.name (txts g.args)).size ≤ 15000 := by
  simp only [QS, Bool.and_eq_true, decide_eq_true_eq] at h
  obtain ⟨h1, h2, h3⟩ := h
  have hn := Zp h1
  have hl := Qct g.args 200 20 h3
  have hr := Qes g.args 200 20 (by omega) h3
  refine ⟨hl.1, h2, QjT hn.1, ?_⟩
  have := QlZ g.name (txts g.args)
  have := hl.2.1
  omega
theorem Qhw {h : AH} (hG : Xm h) (b : AB) : Xm (HB (h ++ [b] ++ [AB.dead, AB.dead]) (h ++ [b]).length ((h ++ [b]).length + 1) true (.empty)) := QmV (hG.app [b]) _ _
theorem QeM (g : G) (hl : g.args.length ≤ 1000000) (h : AH) (hG : Xm h) : Q9 Tryz.prog 59 [g.atom] h fun o h' => o = .ret (.v (.string (txtA g))) ∧ h' = h := by
  have cr := YD g
  cases hr : QS g with
  | false =>
    rw [hr] at cr
    have c1 := Qkf (.fn (.func 103) [] [.ptr h.length 0 0])
    refine Qe Tryz.func59 rfl Tryz.call59 Tryz.ntmps59 (congrArg Array.toList Tryz.results59) (by simp) ?_
    repeat (first | ((first | (with_reducible (first | refine Qa fun K E hK hE => ?_ | refine Qm fun K E hK hE => ?_ | refine Qk cr ?_ | refine Qt cr ?_ | refine Qk c1 ?_ | refine Qt c1 ?_))); simp -implicitDefEqProofs only [Qg, Qf, OpW, QI, aop, undef, AS.ev, Qu, AV.QnA, ↓reduceIte, Nat.reduceAdd, Nat.reduceLT, Nat.reduceEqDiff, QD, QE, ti45, QR, Q0]) | (with_reducible (first | refine Qd fun K hK => ?_ | refine Qi ?_ | refine Qj ?_ | refine QP ?_ | refine QQ ?_ | refine Qn ?_ | refine QB ?_ | refine Qb ?_ | refine Qp ?_ | refine Qw ?_ | refine Qo ?_ | refine Qs ?_ | refine Qv ?_ | refine QL rfl ?_)) | (with_reducible (first | refine hK _ ?_ | (clear hK; refine hK _ ?_) | (clear hK; clear hK; refine hK _ ?_) | (clear hK; clear hK; clear hK; refine hK _ ?_)); clear hK) | (refine Qh rfl ?_; simp only [↓reduceIte, Qok]) | (intro (b : Bool); cases b))
    simp only [QC, Ql, Qr, upd, ↓reduceIte, Qom, Qoq]; first | refine Qc (htake _ _) (.keep (.v _)) ⟨by rw [txtA, if_neg (by rw [hr]; decide)], rfl⟩ | refine Qc List.take_length (.keep (.v _)) ⟨by rw [txtA, if_neg (by rw [hr]; decide)], rfl⟩
  | true =>
    rw [hr] at cr
    obtain ⟨hx, h6, hs0, hs1⟩ := Qhm hr
    have hk := Qi5 (h := h ++ [AB.cells 45 2 [g.atom]] ++ [AB.dead, AB.dead]) (i := (h ++ [AB.cells 45 2 [g.atom]]).length) (j := (h ++ [AB.cells 45 2 [g.atom]]).length + 1) (p := h.length)
      (by simp) (by simp) (by omega) (by simp) (by simp; omega) g (by simp) hx hl (Qhw hG _) false .empty (by rw [show (ByteArray.empty).size = 0 from rfl]; omega)
    rw [Wri, ByteArray.empty_append] at hk
    have c1 := Qhs (.fn (.func 103) [] [.ptr h.length 0 0]) (.tup []) (funT g.name (txts g.args)) (h ++ [AB.cells 45 2 [g.atom]]) hs0 (by omega) (FunW.fn hk)
    refine Qe Tryz.func59 rfl Tryz.call59 Tryz.ntmps59 (congrArg Array.toList Tryz.results59) (by simp) ?_
    repeat (first | ((first | (with_reducible (first | refine Qa fun K E hK hE => ?_ | refine Qm fun K E hK hE => ?_ | refine Qk cr ?_ | refine Qt cr ?_ | refine FunW.ret (FunW.call c1) ?_))); simp -implicitDefEqProofs only [Qg, Qf, OpW, QI, aop, undef, AS.ev, Qu, AV.QnA, ↓reduceIte, Nat.reduceAdd, Nat.reduceLT, Nat.reduceEqDiff, QD, QE, ti45, QR, Q0]) | (with_reducible (first | refine Qd fun K hK => ?_ | refine Qi ?_ | refine Qj ?_ | refine QP ?_ | refine QQ ?_ | refine Qn ?_ | refine QB ?_ | refine Qb ?_ | refine Qp ?_ | refine Qw ?_ | refine Qo ?_ | refine Qs ?_ | refine Qv ?_ | refine QL rfl ?_)) | (with_reducible (first | refine hK _ ?_ | (clear hK; refine hK _ ?_) | (clear hK; clear hK; refine hK _ ?_) | (clear hK; clear hK; clear hK; refine hK _ ?_)); clear hK) | (refine Qh rfl ?_; simp only [↓reduceIte, Qok]) | (intro (b : Bool); cases b))
    simp only [QC, Ql, Qr, upd, ↓reduceIte, Qom, Qoq]; first | refine Qc (htake _ _) (.keep (.v _)) ⟨by rw [txtA, if_pos hr], rfl⟩ | refine Qc List.take_length (.keep (.v _)) ⟨by rw [txtA, if_pos hr], rfl⟩
end Go.Proofs.YtniljpjjnmkoaaaGreatDoor.Ab
set_option maxRecDepth 4000
namespace Go.Proofs.YtniljpjjnmkoaaaGreatDoor.Ab
open Go.Proofs
mutual
def T.QnB : T → Bool
  | .mk k i n l =>
    if k = 0 then decide (-2147483648 ≤ i ∧ i ≤ 2147483648) && Y1 n && l.isEmpty else
    if k = 1 then decide (0 ≤ i ∧ i ≤ 1048576) && Y1 n && l.isEmpty else
    if k = 2 then (if i ≠ 0 ∨ 6 < l.length then false else if (!Yd n && !(opB n && decide (l.length = 2))) = true then false else XF l) else false
def XF : List T → Bool
  | [] => true
  | t :: l => t.QnB && XF l
end
theorem T.QnC (t : T) : t.QnB = if t.kind = 0 then decide (-2147483648 ≤ t.int ∧ t.int ≤ 2147483648) && Y1 t.name && t.args.isEmpty else
    if t.kind = 1 then decide (0 ≤ t.int ∧ t.int ≤ 1048576) && Y1 t.name && t.args.isEmpty else
    if t.kind = 2 then (if t.int ≠ 0 ∨ 6 < t.args.length then false else if (!Yd t.name && !(opB t.name && decide (t.args.length = 2))) = true then false else XF t.args) else false := by
  cases t; rw [T.QnB]; rfl
theorem QgN {l : List T} {k : Nat} (h : k < l.length) : XF (l.drop k) = ((l[k]).QnB && XF (l.drop (k + 1))) := by
  rw [List.drop_eq_getElem_cons h]; simp only [XF]
theorem QgK {p q : Prop} [Decidable p] [Decidable q] : (decide p && decide q) = decide (p ∧ q) := by
  by_cases hp : p <;> by_cases hq : q <;> simp [hp, hq]
mutual
theorem T.QnH : ∀ (t : T) (b d : Int), (t.run b d).1 = (t.QnB && decide ((t.size : Int) ≤ b ∧ (t.dep : Int) ≤ d)) ∧ ((t.run b d).1 = true → (t.run b d).2 = b - t.size)
  | .mk k i n l, b, d => by
    have hs := size_pos (.mk k i n l)
    have hd : 1 ≤ (T.mk k i n l).dep := by rw [T.Qn6]; omega
    rw [T.run, T.QnB]
    by_cases h1 : b - 1 < 0 ∨ d < 1
    · rw [if_pos h1, decide_eq_false (show ¬ (((T.mk k i n l).size : Int) ≤ b ∧ ((T.mk k i n l).dep : Int) ≤ d) by omega), Bool.and_false]
      exact ⟨rfl, fun h => by cases h⟩
    rw [if_neg h1]
    have one : k ≠ 2 → (T.mk k i n l).size = 1 ∧ (T.mk k i n l).dep = 1 := fun h => by simp only [T.size, T.dep, if_neg h]; exact ⟨trivial, trivial⟩
    by_cases k0 : k = 0
    · obtain ⟨e1, e2⟩ := one (by omega)
      rw [if_pos k0, if_pos k0, e1, e2, decide_eq_true (show ((1 : Nat) : Int) ≤ b ∧ ((1 : Nat) : Int) ≤ d by omega), Bool.and_true]
      exact ⟨rfl, fun _ => rfl⟩
    rw [if_neg k0, if_neg k0]
    by_cases k1 : k = 1
    · obtain ⟨e1, e2⟩ := one (by omega)
      rw [if_pos k1, if_pos k1, e1, e2, decide_eq_true (show ((1 : Nat) : Int) ≤ b ∧ ((1 : Nat) : Int) ≤ d by omega), Bool.and_true]
      exact ⟨rfl, fun _ => rfl⟩
    rw [if_neg k1, if_neg k1]
    by_cases k2 : k = 2
    · rw [if_pos k2, if_pos k2]
      by_cases h2 : i ≠ 0 ∨ 6 < l.length
      · rw [if_pos h2, if_pos h2]; exact ⟨rfl, fun h => by cases h⟩
      rw [if_neg h2, if_neg h2]
      by_cases h3 : (!Yd n && !(opB n && decide (l.length = 2))) = true
      · rw [if_pos h3, if_pos h3]; exact ⟨rfl, fun h => by cases h⟩
      rw [if_neg h3, if_neg h3]
      have e1 : (T.mk k i n l).size = 1 + sizes l := by simp only [T.size, if_pos k2]
      have e2 : (T.mk k i n l).dep = 1 + deps l := by simp only [T.dep, if_pos k2]
      obtain ⟨r1, r2⟩ := ZS l (b - 1) (d - 1) (by omega) (by omega)
      rw [e1, e2]
      refine ⟨?_, fun h => by rw [r2 h]; omega⟩
      rw [r1]
      congr 1
      exact decide_eq_decide.2 (by omega)
    · rw [if_neg k2, if_neg k2]; exact ⟨rfl, fun h => by cases h⟩
theorem ZS : ∀ (l : List T) (b d : Int), 0 ≤ b → 0 ≤ d → (runL l b d).1 = (XF l && decide ((sizes l : Int) ≤ b ∧ (deps l : Int) ≤ d)) ∧ ((runL l b d).1 = true → (runL l b d).2 = b - sizes l)
  | [], b, d, hb, hd => by
    rw [runL, XF, sizes, deps, decide_eq_true (show ((0 : Nat) : Int) ≤ b ∧ ((0 : Nat) : Int) ≤ d by omega)]
    exact ⟨rfl, fun _ => by omega⟩
  | t :: l, b, d, hb, hd => by
    obtain ⟨r1, r2⟩ := T.QnH t b d
    rw [runL, XF, sizes, deps]
    by_cases h : (t.run b d).1 = true
    · rw [if_pos h]
      have e := r2 h
      rw [r1, Bool.and_eq_true, decide_eq_true_eq] at h
      obtain ⟨hf, h1, h2⟩ := h
      obtain ⟨q1, q2⟩ := ZS l (t.run b d).2 d (by omega) hd
      rw [hf, Bool.true_and]
      refine ⟨?_, fun h => by rw [q2 h]; omega⟩
      rw [q1]
      congr 1
      exact decide_eq_decide.2 (by omega)
    · rw [if_neg h]
      refine ⟨?_, fun h => by cases h⟩
      rw [r1] at h
      cases hf : t.QnB with
      | false => rfl
      | true =>
        rw [hf, Bool.true_and, decide_eq_true_eq] at h
        rw [decide_eq_false (by omega), Bool.and_false]
end
theorem T.Qn2 (t : T) : (t.run 200 20).1 = (t.QnB && (decide (t.size ≤ 200) && decide (t.dep ≤ 20))) := by
  rw [(T.QnH t 200 20).1, QgK]
  congr 1
  exact decide_eq_decide.2 (by omega)
def rargs : List T → Nat → Bool
  | [], n => decide (n ≤ 200)
  | t :: l, n => (t.run 200 20).1 && rargs l (n + t.size)
theorem Qhx : ∀ (l : List T) (n : Nat), 200 < n → rargs l n = false
  | [], n, h => by rw [rargs, decide_eq_false (by omega)]
  | t :: l, n, h => by rw [rargs, Qhx l _ (by omega), Bool.and_false]
theorem Qfc : ∀ (l : List T) (n : Nat), n ≤ 200 → rargs l n = (runL l (200 - n) 20).1
  | [], n, h => by rw [rargs, runL, decide_eq_true h]
  | t :: l, n, h => by
    obtain ⟨r1, _⟩ := T.QnH t 200 20
    obtain ⟨q1, q2⟩ := T.QnH t (200 - n) 20
    rw [rargs, runL, r1]
    by_cases hq : (t.run (200 - n) 20).1 = true
    · rw [if_pos hq, q2 hq]
      rw [q1, Bool.and_eq_true, decide_eq_true_eq] at hq
      rw [hq.1, decide_eq_true (by omega), Bool.true_and, Bool.true_and, Qfc l (n + t.size) (by omega)]
      congr 2; omega
    · rw [if_neg hq]
      rw [q1] at hq
      cases hf : t.QnB with
      | false => rfl
      | true =>
        rw [hf, Bool.true_and, decide_eq_true_eq] at hq
        by_cases h2 : n + t.size ≤ 200
        · rw [decide_eq_false (by omega)]; rfl
        · rw [Qhx l _ (by omega), Bool.and_false]
theorem Qjb (l : List T) : rargs l 0 = (runL l 200 20).1 := by
  have := Qfc l 0 (by omega)
  simpa using this
mutual
theorem T.QnG : ∀ t : T, t.size ≤ t.nds
  | .mk k i n l => by
    simp only [T.size, T.nds]
    have := Z0 l
    split <;> omega
theorem Z0 : ∀ l : List T, sizes l ≤ ndsL l
  | [] => Nat.le_refl _
  | t :: l => by
    simp only [sizes, ndsL]
    have := T.QnG t
    have := Z0 l
    omega
end
theorem Qld (t : T) (k0 : t.kind = 0) : Pure Tryz.prog 80 [t.av] (.b t.QnB) := by
  intro h
  have z0 : (t.kind == 0) = true := by simp [k0]
  by_cases c1 : t.int ≥ -2147483648
  rotate_left
  · have e1 : ¬ -2147483648 ≤ t.int := by omega
    have R : t.QnB = false := by
      rw [T.QnC, if_pos k0]; simp [e1]
    rw [R]
    refine Qe Tryz.func80 rfl Tryz.call80 Tryz.ntmps80 (congrArg Array.toList Tryz.results80) (by simp) ?_
    repeat (first | (((with_reducible refine Qa fun K E hK hE => ?_)); simp -implicitDefEqProofs only [Qg, Qf, OpW, aop, undef, AS.ev, Qu, AV.QnA, ↓reduceIte, Nat.reduceAdd, Nat.reduceLT, Nat.reduceEqDiff, Qq, QD, QE, aBin, ti3, QV, Xa, z0, c1]) | (with_reducible (first | refine Qd fun K hK => ?_ | refine Qi ?_ | refine Qj ?_ | refine Qp ?_ | refine Qs ?_)) | ((with_reducible refine hK _ ?_); clear hK) | (refine Qh rfl ?_; simp only [↓reduceIte]))
    simp only [QC, Ql, Qr, upd, ↓reduceIte, Qom, Qoq]; first | refine Qc (htake _ _) (.keep (.v _)) ⟨rfl, rfl⟩ | refine Qc List.take_length (.keep (.v _)) ⟨rfl, rfl⟩
  have e1 : -2147483648 ≤ t.int := by omega
  by_cases c2 : t.int ≤ 2147483648
  rotate_left
  · skip
    have R : t.QnB = false := by
      rw [T.QnC, if_pos k0]; simp [e1, c2]
    rw [R]
    refine Qe Tryz.func80 rfl Tryz.call80 Tryz.ntmps80 (congrArg Array.toList Tryz.results80) (by simp) ?_
    repeat (first | (((with_reducible refine Qa fun K E hK hE => ?_)); simp -implicitDefEqProofs only [Qg, Qf, OpW, aop, undef, AS.ev, Qu, AV.QnA, ↓reduceIte, Nat.reduceAdd, Nat.reduceLT, Nat.reduceEqDiff, Qq, QD, QE, aBin, ti3, QV, Xa, z0, c1, c2]) | (with_reducible (first | refine Qd fun K hK => ?_ | refine Qi ?_ | refine Qj ?_ | refine Qp ?_ | refine Qs ?_)) | ((with_reducible refine hK _ ?_); clear hK) | (refine Qh rfl ?_; simp only [↓reduceIte]))
    simp only [QC, Ql, Qr, upd, ↓reduceIte, Qom, Qoq]; first | refine Qc (htake _ _) (.keep (.v _)) ⟨rfl, rfl⟩ | refine Qc List.take_length (.keep (.v _)) ⟨rfl, rfl⟩
  cases c3 : Y1 t.name with
  | false =>
    have c3' : (t.name.toList == ({ data := #[] } : ByteArray).toList) = false := c3
    have R : t.QnB = false := by
      rw [T.QnC, if_pos k0]; simp [e1, c2, c3]
    rw [R]
    refine Qe Tryz.func80 rfl Tryz.call80 Tryz.ntmps80 (congrArg Array.toList Tryz.results80) (by simp) ?_
    repeat (first | (((with_reducible refine Qa fun K E hK hE => ?_)); simp -implicitDefEqProofs only [Qg, Qf, OpW, aop, undef, AS.ev, Qu, AV.QnA, ↓reduceIte, Nat.reduceAdd, Nat.reduceLT, Nat.reduceEqDiff, Qq, QD, QE, aBin, ti3, ti9, QV, Xa, Xc, z0, c1, c2, c3']) | (with_reducible (first | refine Qd fun K hK => ?_ | refine Qi ?_ | refine Qj ?_ | refine Qp ?_ | refine Qs ?_)) | ((with_reducible refine hK _ ?_); clear hK) | (refine Qh rfl ?_; simp only [↓reduceIte]))
    simp only [QC, Ql, Qr, upd, ↓reduceIte, Qom, Qoq]; first | refine Qc (htake _ _) (.keep (.v _)) ⟨rfl, rfl⟩ | refine Qc List.take_length (.keep (.v _)) ⟨rfl, rfl⟩
  | true =>
    have c3' : (t.name.toList == ({ data := #[] } : ByteArray).toList) = true := c3
    cases hl : t.args with
    | nil =>
      have c4 : ((0 : Int) == 0) = true := rfl
      have R : t.QnB = true := by
        rw [T.QnC, if_pos k0]; simp [e1, c2, c3, hl]
      rw [R]
      refine Qe Tryz.func80 rfl Tryz.call80 Tryz.ntmps80 (congrArg Array.toList Tryz.results80) (by simp) ?_
      repeat (first | (((with_reducible refine Qa fun K E hK hE => ?_)); simp -implicitDefEqProofs only [Qg, Qf, OpW, aop, undef, AS.ev, Qu, AV.QnA, ↓reduceIte, Nat.reduceAdd, Nat.reduceLT, Nat.reduceEqDiff, Qq, QD, QE, aBin, aLen, goInt, ti3, ti9, ti29, un29, QV, Xa, Xc, Q7, z0, c1, c2, c3', hl, ZA]) | (with_reducible (first | refine Qd fun K hK => ?_ | refine Qi ?_ | refine Qj ?_ | refine Qp ?_ | refine Qs ?_)) | ((with_reducible refine hK _ ?_); clear hK) | (refine Qh rfl ?_; simp only [↓reduceIte]))
      simp only [QC, Ql, Qr, upd, ↓reduceIte, Qom, Qoq]; first | refine Qc (htake _ _) (.keep (.v _)) ⟨rfl, rfl⟩ | refine Qc List.take_length (.keep (.v _)) ⟨rfl, rfl⟩
    | cons a l =>
      have c4 : (((l.length + 1 : Nat) : Int) == 0) = false := by simp; omega
      have R : t.QnB = false := by
        rw [T.QnC, if_pos k0]; simp [e1, c2, c3, hl]
      rw [R]
      refine Qe Tryz.func80 rfl Tryz.call80 Tryz.ntmps80 (congrArg Array.toList Tryz.results80) (by simp) ?_
      repeat (first | (((with_reducible refine Qa fun K E hK hE => ?_)); simp -implicitDefEqProofs only [Qg, Qf, OpW, aop, undef, AS.ev, Qu, AV.QnA, ↓reduceIte, Nat.reduceAdd, Nat.reduceLT, Nat.reduceEqDiff, Qq, QD, QE, aBin, aLen, goInt, ti3, ti9, ti29, un29, QV, Xa, Xc, Q7, z0, c1, c2, c3', hl, c4]) | (with_reducible (first | refine Qd fun K hK => ?_ | refine Qi ?_ | refine Qj ?_ | refine Qp ?_ | refine Qs ?_)) | ((with_reducible refine hK _ ?_); clear hK) | (refine Qh rfl ?_; simp only [↓reduceIte]))
      simp only [QC, Ql, Qr, upd, ↓reduceIte, Qom, Qoq]; first | refine Qc (htake _ _) (.keep (.v _)) ⟨rfl, rfl⟩ | refine Qc List.take_length (.keep (.v _)) ⟨rfl, rfl⟩
theorem Qky (t : T) (k1 : t.kind = 1) : Pure Tryz.prog 80 [t.av] (.b t.QnB) := by
  intro h
  have k0 : ¬ t.kind = 0 := by omega
  have z0 : (t.kind == 0) = false := by simp [k1]
  have z1 : (t.kind == 1) = true := by simp [k1]
  by_cases c1 : t.int ≥ 0
  rotate_left
  · have e1 : ¬ 0 ≤ t.int := by omega
    have R : t.QnB = false := by
      rw [T.QnC, if_neg k0, if_pos k1]; simp [e1]
    rw [R]
    refine Qe Tryz.func80 rfl Tryz.call80 Tryz.ntmps80 (congrArg Array.toList Tryz.results80) (by simp) ?_
    repeat (first | (((with_reducible refine Qa fun K E hK hE => ?_)); simp -implicitDefEqProofs only [Qg, Qf, OpW, aop, undef, AS.ev, Qu, AV.QnA, ↓reduceIte, Nat.reduceAdd, Nat.reduceLT, Nat.reduceEqDiff, Qq, QD, QE, aBin, ti3, QV, Xa, z0, z1, c1]) | (with_reducible (first | refine Qd fun K hK => ?_ | refine Qi ?_ | refine Qj ?_ | refine Qp ?_ | refine Qs ?_)) | ((with_reducible refine hK _ ?_); clear hK) | (refine Qh rfl ?_; simp only [↓reduceIte, Qok]))
    simp only [QC, Ql, Qr, upd, ↓reduceIte, Qom, Qoq]; first | refine Qc (htake _ _) (.keep (.v _)) ⟨rfl, rfl⟩ | refine Qc List.take_length (.keep (.v _)) ⟨rfl, rfl⟩
  have e1 : 0 ≤ t.int := by omega
  by_cases c2 : t.int ≤ 1048576
  rotate_left
  · skip
    have R : t.QnB = false := by
      rw [T.QnC, if_neg k0, if_pos k1]; simp [e1, c2]
    rw [R]
    refine Qe Tryz.func80 rfl Tryz.call80 Tryz.ntmps80 (congrArg Array.toList Tryz.results80) (by simp) ?_
    repeat (first | (((with_reducible refine Qa fun K E hK hE => ?_)); simp -implicitDefEqProofs only [Qg, Qf, OpW, aop, undef, AS.ev, Qu, AV.QnA, ↓reduceIte, Nat.reduceAdd, Nat.reduceLT, Nat.reduceEqDiff, Qq, QD, QE, aBin, ti3, QV, Xa, z0, z1, c1, c2]) | (with_reducible (first | refine Qd fun K hK => ?_ | refine Qi ?_ | refine Qj ?_ | refine Qp ?_ | refine Qs ?_)) | ((with_reducible refine hK _ ?_); clear hK) | (refine Qh rfl ?_; simp only [↓reduceIte, Qok]))
    simp only [QC, Ql, Qr, upd, ↓reduceIte, Qom, Qoq]; first | refine Qc (htake _ _) (.keep (.v _)) ⟨rfl, rfl⟩ | refine Qc List.take_length (.keep (.v _)) ⟨rfl, rfl⟩
  cases c3 : Y1 t.name with
  | false =>
    have c3' : (t.name.toList == ({ data := #[] } : ByteArray).toList) = false := c3
    have R : t.QnB = false := by
      rw [T.QnC, if_neg k0, if_pos k1]; simp [e1, c2, c3]
    rw [R]
    refine Qe Tryz.func80 rfl Tryz.call80 Tryz.ntmps80 (congrArg Array.toList Tryz.results80) (by simp) ?_
    repeat (first | (((with_reducible refine Qa fun K E hK hE => ?_)); simp -implicitDefEqProofs only [Qg, Qf, OpW, aop, undef, AS.ev, Qu, AV.QnA, ↓reduceIte, Nat.reduceAdd, Nat.reduceLT, Nat.reduceEqDiff, Qq, QD, QE, aBin, ti3, ti9, QV, Xa, Xc, z0, z1, c1, c2, c3']) | (with_reducible (first | refine Qd fun K hK => ?_ | refine Qi ?_ | refine Qj ?_ | refine Qp ?_ | refine Qs ?_)) | ((with_reducible refine hK _ ?_); clear hK) | (refine Qh rfl ?_; simp only [↓reduceIte, Qok]))
    simp only [QC, Ql, Qr, upd, ↓reduceIte, Qom, Qoq]; first | refine Qc (htake _ _) (.keep (.v _)) ⟨rfl, rfl⟩ | refine Qc List.take_length (.keep (.v _)) ⟨rfl, rfl⟩
  | true =>
    have c3' : (t.name.toList == ({ data := #[] } : ByteArray).toList) = true := c3
    cases hl : t.args with
    | nil =>
      have c4 : ((0 : Int) == 0) = true := rfl
      have R : t.QnB = true := by
        rw [T.QnC, if_neg k0, if_pos k1]; simp [e1, c2, c3, hl]
      rw [R]
      refine Qe Tryz.func80 rfl Tryz.call80 Tryz.ntmps80 (congrArg Array.toList Tryz.results80) (by simp) ?_
      repeat (first | (((with_reducible refine Qa fun K E hK hE => ?_)); simp -implicitDefEqProofs only [Qg, Qf, OpW, aop, undef, AS.ev, Qu, AV.QnA, ↓reduceIte, Nat.reduceAdd, Nat.reduceLT, Nat.reduceEqDiff, Qq, QD, QE, aBin, aLen, goInt, ti3, ti9, ti29, un29, QV, Xa, Xc, Q7, z0, z1, c1, c2, c3', hl, ZA]) | (with_reducible (first | refine Qd fun K hK => ?_ | refine Qi ?_ | refine Qj ?_ | refine Qp ?_ | refine Qs ?_)) | ((with_reducible refine hK _ ?_); clear hK) | (refine Qh rfl ?_; simp only [↓reduceIte, Qok]))
      simp only [QC, Ql, Qr, upd, ↓reduceIte, Qom, Qoq]; first | refine Qc (htake _ _) (.keep (.v _)) ⟨rfl, rfl⟩ | refine Qc List.take_length (.keep (.v _)) ⟨rfl, rfl⟩
    | cons a l =>
      have c4 : (((l.length + 1 : Nat) : Int) == 0) = false := by simp; omega
      have R : t.QnB = false := by
        rw [T.QnC, if_neg k0, if_pos k1]; simp [e1, c2, c3, hl]
      rw [R]
      refine Qe Tryz.func80 rfl Tryz.call80 Tryz.ntmps80 (congrArg Array.toList Tryz.results80) (by simp) ?_
      repeat (first | (((with_reducible refine Qa fun K E hK hE => ?_)); simp -implicitDefEqProofs only [Qg, Qf, OpW, aop, undef, AS.ev, Qu, AV.QnA, ↓reduceIte, Nat.reduceAdd, Nat.reduceLT, Nat.reduceEqDiff, Qq, QD, QE, aBin, aLen, goInt, ti3, ti9, ti29, un29, QV, Xa, Xc, Q7, z0, z1, c1, c2, c3', hl, c4]) | (with_reducible (first | refine Qd fun K hK => ?_ | refine Qi ?_ | refine Qj ?_ | refine Qp ?_ | refine Qs ?_)) | ((with_reducible refine hK _ ?_); clear hK) | (refine Qh rfl ?_; simp only [↓reduceIte, Qok]))
      simp only [QC, Ql, Qr, upd, ↓reduceIte, Qom, Qoq]; first | refine Qc (htake _ _) (.keep (.v _)) ⟨rfl, rfl⟩ | refine Qc List.take_length (.keep (.v _)) ⟨rfl, rfl⟩
theorem QhF (t : T) (k0 : ¬ t.kind = 0) (k1 : ¬ t.kind = 1) (k2 : ¬ t.kind = 2) : Pure Tryz.prog 80 [t.av] (.b t.QnB) := by
  intro h
  have z0 : (t.kind == 0) = false := by simp [k0]
  have z1 : (t.kind == 1) = false := by simp [k1]
  have z2 : (t.kind == 2) = false := by simp [k2]
  have R : t.QnB = false := by
    rw [T.QnC, if_neg k0, if_neg k1, if_neg k2]
  rw [R]
  refine Qe Tryz.func80 rfl Tryz.call80 Tryz.ntmps80 (congrArg Array.toList Tryz.results80) (by simp) ?_
  repeat (first | (((with_reducible refine Qa fun K E hK hE => ?_)); simp -implicitDefEqProofs only [Qg, Qf, OpW, aop, undef, AS.ev, Qu, AV.QnA, ↓reduceIte, Nat.reduceAdd, Nat.reduceLT, Nat.reduceEqDiff, Qq, QD, QE, aBin, ti3, QV, z0, z1, z2]) | (with_reducible (first | refine Qd fun K hK => ?_ | refine Qi ?_ | refine Qj ?_ | refine Qn ?_ | refine Qb ?_ | refine Qo ?_)) | ((with_reducible refine hK _ ?_); clear hK) | (refine Qh rfl ?_; simp only [↓reduceIte, Qok]))
  simp only [QC, Ql, Qr, upd, ↓reduceIte, Qom, Qoq]; first | refine Qc (htake _ _) (.keep (.v _)) ⟨rfl, rfl⟩ | refine Qc List.take_length (.keep (.v _)) ⟨rfl, rfl⟩
theorem Qlb (n : Nat) (hb : n ≤ 1000000) (ih : ∀ t : T, t.nds ≤ n → t.ok → Pure Tryz.prog 80 [t.av] (.b t.QnB)) (t : T) (hn : t.nds ≤ n + 1) (ho : t.ok) (k2 : t.kind = 2) :
    Pure Tryz.prog 80 [t.av] (.b t.QnB) := by
  intro h
  have k0 : ¬ t.kind = 0 := by omega
  have k1 : ¬ t.kind = 1 := by omega
  have z0 : (t.kind == 0) = false := by simp [k2]
  have z1 : (t.kind == 1) = false := by simp [k2]
  have z2 : (t.kind == 2) = true := by simp [k2]
  obtain ⟨o1, o2, o3, o4⟩ := (T.ok_eq t).1 ho
  have hnd := T.QnE t
  have hll := QW t.args
  have co := ZH t.name
  have cr : Pure Tryz.prog 47 [.v (.string t.name)] (.b (Yd t.name)) := QaX t.name (by simp only [maxLen]; omega)
  refine Qe Tryz.func80 rfl Tryz.call80 Tryz.ntmps80 (congrArg Array.toList Tryz.results80) (by simp) ?_
  iterate 15 (try (first | (((with_reducible refine Qa fun K E hK hE => ?_)); simp -implicitDefEqProofs only [Qg, Qf, OpW, aop, undef, AS.ev, Qu, AV.QnA, ↓reduceIte, Nat.reduceAdd, Nat.reduceLT, Nat.reduceEqDiff, Qq, QD, QE, aBin, ti3, QV, z0, z1, z2]) | (with_reducible (first | refine Qd fun K hK => ?_ | refine Qi ?_)) | ((with_reducible refine hK _ ?_); clear hK) | (refine Qh rfl ?_; simp only [↓reduceIte, Qok])))
  refine XI (fun s => s.tm 3 = .b (opB t.name && decide (t.args.length = 2)) ∧ s.tm 1 = .ptr h.length 0 0 ∧ s.h = h ++ [.cells 41 4 [t.av]]) ?_ ?_
  rotate_left
  · cases ho : opB t.name with
    | false =>
      rw [ho] at co
      repeat (first | ((first | (with_reducible (first | refine Qm fun K E hK hE => ?_ | refine Qk co ?_))); simp -implicitDefEqProofs only [Qg, Qf, OpW, QI, aop, undef, AS.ev, ↓reduceIte, Nat.reduceLT, Nat.reduceEqDiff, Qq, QD, QE, ti9, Xc]) | (with_reducible refine Qb ?_) | ((with_reducible refine hK _ ?_); clear hK))
      exact ⟨rfl, rfl, rfl⟩
    | true =>
      rw [ho] at co
      by_cases hl2 : t.args.length = 2
      · have h2 : ((t.args.length : Int) == 2) = true := by rw [hl2]; rfl
        rw [decide_eq_true hl2]
        repeat (first | ((first | (with_reducible (first | refine Qm fun K E hK hE => ?_ | refine Qk co ?_))); simp -implicitDefEqProofs only [Qg, Qf, OpW, QI, aop, AS.ev, ↓reduceIte, Nat.reduceLT, Nat.reduceEqDiff, Qq, QD, QE, aBin, aLen, goInt, ti9, ti29, un29, Xc, Q7, h2]) | (with_reducible refine Qb ?_) | ((with_reducible refine hK _ ?_); clear hK))
        exact ⟨rfl, rfl, rfl⟩
      · have h2 : ((t.args.length : Int) == 2) = false := by rw [beq_eq_false_iff_ne]; omega
        rw [decide_eq_false hl2]
        repeat (first | ((first | (with_reducible (first | refine Qm fun K E hK hE => ?_ | refine Qk co ?_))); simp -implicitDefEqProofs only [Qg, Qf, OpW, QI, aop, AS.ev, ↓reduceIte, Nat.reduceLT, Nat.reduceEqDiff, Qq, QD, QE, aBin, aLen, goInt, ti9, ti29, un29, Xc, Q7, h2]) | (with_reducible refine Qb ?_) | ((with_reducible refine hK _ ?_); clear hK))
        exact ⟨rfl, rfl, rfl⟩
  rintro ⟨tm, hp⟩ ⟨t3, t1, hh⟩
  dsimp only at t3 t1 hh
  subst hh
  obtain ⟨p, ep⟩ : ∃ p, p = (opB t.name && decide (t.args.length = 2)) := ⟨_, rfl⟩
  rw [← ep] at t3
  have RR : t.QnB = if t.int ≠ 0 ∨ 6 < t.args.length then false else if (!Yd t.name && !p) = true then false else XF t.args := by rw [T.QnC, if_neg k0, if_neg k1, if_pos k2, ← ep]
  refine XI (fun s => t.QnB = XF t.args ∧ t.args.length ≤ 6 ∧ s.tm 1 = .ptr h.length 0 0 ∧ s.h = h ++ [.cells 41 4 [t.av]]) ?_ ?_
  rotate_left
  · by_cases i0 : t.int = 0
    rotate_left
    · have y0 : (t.int != 0) = true := by simp [i0]
      have R : t.QnB = false := by rw [RR, if_pos (.inl i0)]
      rw [R]
      repeat (first | (((with_reducible refine Qa fun K E hK hE => ?_)); simp -implicitDefEqProofs only [Qg, Qf, OpW, aop, undef, AS.ev, ↓reduceIte, Nat.reduceLT, Nat.reduceEqDiff, Qq, QD, QE, aBin, ti3, Xa, t1, y0]) | (with_reducible (first | refine Qj ?_ | refine Qp ?_ | refine Qs ?_)) | ((with_reducible refine hK _ ?_); clear hK) | (refine Qh rfl ?_; simp only [↓reduceIte]))
      simp only [QC, Ql, Qr, upd, ↓reduceIte, Qom, Qoq]; first | refine Qc (htake _ _) (.keep (.v _)) ⟨rfl, rfl⟩ | refine Qc List.take_length (.keep (.v _)) ⟨rfl, rfl⟩
    have y0 : (t.int != 0) = false := by simp [i0]
    cases p with
    | true =>
      have hl2 : t.args.length = 2 := by
        have := ep.symm; rw [Bool.and_eq_true, decide_eq_true_eq] at this; exact this.2
      have R : t.QnB = XF t.args := by rw [RR, if_neg (by omega), if_neg (by simp)]
      repeat (first | (((with_reducible refine Qa fun K E hK hE => ?_)); simp -implicitDefEqProofs only [Qg, Qf, OpW, aop, undef, AS.ev, ↓reduceIte, Nat.reduceLT, Nat.reduceEqDiff, Qq, QD, QE, aBin, ti3, Xa, t1, t3, y0]) | (with_reducible (first | refine Qn ?_ | refine Qb ?_)) | ((with_reducible refine hK _ ?_); clear hK) | (refine Qh rfl ?_; simp only [↓reduceIte, Qok]))
      exact ⟨R, by omega, t1, rfl⟩
    | false =>
      cases hr : Yd t.name with
      | false =>
        rw [hr] at cr
        have R : t.QnB = false := by rw [RR]; split; rfl; rw [if_pos (by rw [hr]; rfl)]
        rw [R]
        repeat (first | ((first | (with_reducible (first | refine Qa fun K E hK hE => ?_ | refine Qk cr ?_))); simp -implicitDefEqProofs only [Qg, Qf, OpW, QI, aop, undef, AS.ev, ↓reduceIte, Nat.reduceLT, Nat.reduceEqDiff, Qq, QD, QE, aBin, ti3, ti9, Xa, Xc, t1, t3, y0]) | (with_reducible (first | refine Qj ?_ | refine Qp ?_ | refine Qs ?_)) | ((with_reducible refine hK _ ?_); clear hK) | (refine Qh rfl ?_; simp only [↓reduceIte]))
        simp only [QC, Ql, Qr, upd, ↓reduceIte, Qom, Qoq]; first | refine Qc (htake _ _) (.keep (.v _)) ⟨rfl, rfl⟩ | refine Qc List.take_length (.keep (.v _)) ⟨rfl, rfl⟩
      | true =>
        rw [hr] at cr
        by_cases a6 : t.args.length > 6
        · have y6 : (t.args.length : Int) > 6 := by omega
          have R : t.QnB = false := by rw [RR, if_pos (.inr a6)]
          rw [R]
          repeat (first | ((first | (with_reducible (first | refine Qa fun K E hK hE => ?_ | refine Qk cr ?_))); simp -implicitDefEqProofs only [Qg, Qf, OpW, QI, aop, AS.ev, ↓reduceIte, Nat.reduceLT, Nat.reduceEqDiff, Qq, QD, QE, aBin, aLen, goInt, ti3, ti9, ti29, un29, Xa, Xc, Q7, t1, t3, y0, y6]) | (with_reducible (first | refine Qj ?_ | refine Qp ?_ | refine Qs ?_)) | ((with_reducible refine hK _ ?_); clear hK) | (refine Qh rfl ?_; simp only [↓reduceIte]))
          simp only [QC, Ql, Qr, upd, ↓reduceIte, Qom, Qoq]; first | refine Qc (htake _ _) (.keep (.v _)) ⟨rfl, rfl⟩ | refine Qc List.take_length (.keep (.v _)) ⟨rfl, rfl⟩
        · have y6 : ¬ (t.args.length : Int) > 6 := by omega
          have R : t.QnB = XF t.args := by rw [RR, if_neg (by omega), if_neg (by rw [hr]; simp)]
          repeat (first | ((first | (with_reducible (first | refine Qa fun K E hK hE => ?_ | refine Qk cr ?_))); simp -implicitDefEqProofs only [Qg, Qf, OpW, QI, aop, AS.ev, ↓reduceIte, Nat.reduceLT, Nat.reduceEqDiff, Qq, QD, QE, aBin, aLen, goInt, ti3, ti9, ti29, un29, Xa, Xc, Q7, t1, t3, y0, y6]) | (with_reducible (first | refine Qn ?_ | refine Qb ?_)) | ((with_reducible refine hK _ ?_); clear hK) | (refine Qh rfl ?_; simp only [↓reduceIte, Qok]))
          exact ⟨R, by omega, t1, rfl⟩
  rintro ⟨tm, hp⟩ ⟨R, hl6, t1, hh⟩
  dsimp only at t1 hh
  subst hh
  rw [R]
  repeat (first | (((with_reducible refine Qa fun K E hK hE => ?_)); simp -implicitDefEqProofs only [Q1, QY, Qf, OpW, aop, AS.ev, Q2, Qgk, Nat.reduceLT]) | (with_reducible (first | refine Qd fun K hK => ?_ | refine Qi ?_)) | ((with_reducible refine hK _ ?_); clear hK))
  obtain ⟨I, hI⟩ : ∃ I : Nat → AS → Prop, I = fun m' s => ∃ (k : Nat), m' = t.args.length - k ∧ k ≤ t.args.length ∧ XF t.args = XF (t.args.drop k) ∧ s.tm 1 = .ptr h.length 0 0 ∧ s.tm 4 = .i k ∧ s.h = h ++ [AB.cells 41 4 [t.av]] := ⟨_, rfl⟩; refine QK I ?_ (m := t.args.length) ?_
  · intro m' s hs; rw [hI] at hs; obtain ⟨tm, hp⟩ := s; dsimp only at hs; obtain ⟨k, rfl, hk, he, t1, t4, rfl⟩ := hs
    by_cases hlt : k < t.args.length
    · have hg := Xb hlt
      have z9 : (k : Int) < t.args.length := by omega
      have c := ih t.args[k] (by have := Yc hlt; omega) (ZL hlt o4)
      rw [QgN hlt] at he
      cases hr : (t.args[k]).QnB with
      | true =>
        rw [hr] at c he
        repeat (first | ((first | (with_reducible (first | refine Qa fun K E hK hE => ?_ | refine Qm fun K E hK hE => ?_ | refine Qk c ?_))); simp -implicitDefEqProofs only [Qg, Qf, OpW, QI, aop, AS.ev, ↓reduceIte, Nat.reduceAdd, Nat.reduceLT, Nat.reduceEqDiff, Qq, QD, QE, Qz, aBin, aLen, goInt, ti29, ei29, un29, ti41, Q7, t1, t4, z9, hg]) | (with_reducible (first | refine Qd fun K hK => ?_ | refine Qi ?_ | refine Qn ?_ | refine Qb ?_ | refine Qo ?_)) | ((with_reducible refine hK _ ?_); clear hK) | (refine Qh rfl ?_; simp only [↓reduceIte, Qok]))
        refine Q4.mk (m' := t.args.length - (k + 1)) (by omega) ?_
        rw [hI]
        refine ⟨k + 1, rfl, hlt, by rw [he]; rfl, t1, ?_, rfl⟩
        simp only [upd, ↓reduceIte]
        rw [QT (by omega)]
      | false =>
        rw [hr] at c he
        repeat (first | ((first | (with_reducible (first | refine Qa fun K E hK hE => ?_ | refine Qk c ?_))); simp -implicitDefEqProofs only [Qg, Qf, OpW, QI, aop, AS.ev, ↓reduceIte, Nat.reduceAdd, Nat.reduceLT, Nat.reduceEqDiff, Qq, QD, QE, Qz, aBin, aLen, goInt, ti29, ei29, un29, ti41, Q7, t1, t4, z9, hg]) | (with_reducible (first | refine Qd fun K hK => ?_ | refine Qi ?_ | refine Qj ?_ | refine Qn ?_ | refine Qb ?_ | refine Qp ?_ | refine Qs ?_)) | ((with_reducible refine hK _ ?_); clear hK) | (refine Qh rfl ?_; simp only [↓reduceIte]))
        simp only [QC, Ql, Qr, upd, ↓reduceIte, Qom, Qoq]; first | refine Qc (htake _ _) (.keep (.v _)) ⟨by rw [he]; rfl, rfl⟩ | refine Qc List.take_length (.keep (.v _)) ⟨by rw [he]; rfl, rfl⟩
    · have z9 : ¬ (k : Int) < t.args.length := by omega
      have hkl : k = t.args.length := by omega
      rw [hkl, List.drop_length] at he
      repeat (first | (((with_reducible refine Qa fun K E hK hE => ?_)); simp -implicitDefEqProofs only [Qg, Qf, OpW, aop, AS.ev, ↓reduceIte, Nat.reduceLT, Nat.reduceEqDiff, Qq, QD, QE, aBin, aLen, goInt, ti29, un29, Q7, t1, t4, z9]) | (with_reducible (first | refine Qd fun K hK => ?_ | refine Qj ?_ | refine QB ?_ | refine Qb ?_ | refine Qp ?_ | refine Qw ?_ | refine Qs ?_ | refine Qv ?_)) | ((with_reducible refine hK _ ?_); clear hK) | (clear hK; (with_reducible refine hK _ ?_); clear hK) | (refine Qh rfl ?_; simp only [↓reduceIte, Qok]))
      simp only [QC, Ql, Qr, upd, ↓reduceIte, Qom, Qoq]; first | refine Qc (htake _ _) (.keep (.v _)) ⟨by rw [he]; rfl, rfl⟩ | refine Qc List.take_length (.keep (.v _)) ⟨by rw [he]; rfl, rfl⟩
  · rw [hI]
    exact ⟨0, by omega, Nat.zero_le _, by rw [List.drop_zero], t1, rfl, rfl⟩
theorem QfN (n : Nat) : n ≤ 1000000 → ∀ t : T, t.nds ≤ n → t.ok → Pure Tryz.prog 80 [t.av] (.b t.QnB) := by
  induction n with
  | zero => intro _ t hn _; have := T.QnE t; omega
  | succ n ih =>
    intro hb t hn ho
    by_cases k0 : t.kind = 0
    · exact Qld t k0
    by_cases k1 : t.kind = 1
    · exact Qky t k1
    by_cases k2 : t.kind = 2
    · exact Qlb n (by omega) (ih (by omega)) t hn ho k2
    · exact QhF t k0 k1 k2
theorem Y4 (t : T) (hn : t.nds ≤ 1000000) (ho : t.ok) : Pure Tryz.prog 42 [t.av] (.b (t.run 200 20).1) := by
  intro h
  have hs := T.QnG t
  have c1 := QfN 1000000 (Nat.le_refl _) t hn ho
  have c2 := Qb2 1000000 t (by omega) (Nat.le_refl _)
  have c3 := QeY 1000000 t (by omega) (Nat.le_refl _)
  rw [T.Qn2]
  cases hf : t.QnB with
  | false =>
    rw [hf] at c1
    refine Qe Tryz.func42 rfl Tryz.call42 Tryz.ntmps42 (congrArg Array.toList Tryz.results42) (by simp) ?_
    repeat (first | ((first | (with_reducible (first | refine Qa fun K E hK hE => ?_ | refine Qk c1 ?_))); simp -implicitDefEqProofs only [Qg, Qf, OpW, QI, aop, undef, AS.ev, Qu, AV.QnA, ↓reduceIte, Nat.reduceAdd, Nat.reduceLT, Nat.reduceEqDiff, QD, QE, ti41]) | (with_reducible refine Qj ?_) | ((with_reducible refine hK _ ?_); clear hK))
    simp only [QC, Ql, Qr, upd, ↓reduceIte, Qom, Qoq]; first | refine Qc (htake _ _) (.keep (.v _)) ⟨rfl, rfl⟩ | refine Qc List.take_length (.keep (.v _)) ⟨rfl, rfl⟩
  | true =>
    rw [hf] at c1
    by_cases q1 : t.size ≤ 200
    · have z1 : (t.size : Int) ≤ 200 := by omega
      by_cases q2 : t.dep ≤ 20
      · have z2 : (t.dep : Int) ≤ 20 := by omega
        rw [decide_eq_true q1, decide_eq_true q2]
        refine Qe Tryz.func42 rfl Tryz.call42 Tryz.ntmps42 (congrArg Array.toList Tryz.results42) (by simp) ?_
        repeat (first | ((first | (with_reducible (first | refine Qa fun K E hK hE => ?_ | refine Qk c1 ?_ | refine Qk c2 ?_ | refine Qk c3 ?_))); simp -implicitDefEqProofs only [Qg, Qf, OpW, QI, aop, undef, AS.ev, Qu, AV.QnA, ↓reduceIte, Nat.reduceAdd, Nat.reduceLT, Nat.reduceEqDiff, QD, QE, aBin, ti41, z1, z2]) | (with_reducible refine Qj ?_) | ((with_reducible refine hK _ ?_); clear hK))
        simp only [QC, Ql, Qr, upd, ↓reduceIte, Qom, Qoq]; first | refine Qc (htake _ _) (.keep (.v _)) ⟨rfl, rfl⟩ | refine Qc List.take_length (.keep (.v _)) ⟨rfl, rfl⟩
      · have z2 : ¬ (t.dep : Int) ≤ 20 := by omega
        rw [decide_eq_true q1, decide_eq_false q2]
        refine Qe Tryz.func42 rfl Tryz.call42 Tryz.ntmps42 (congrArg Array.toList Tryz.results42) (by simp) ?_
        repeat (first | ((first | (with_reducible (first | refine Qa fun K E hK hE => ?_ | refine Qk c1 ?_ | refine Qk c2 ?_ | refine Qk c3 ?_))); simp -implicitDefEqProofs only [Qg, Qf, OpW, QI, aop, undef, AS.ev, Qu, AV.QnA, ↓reduceIte, Nat.reduceAdd, Nat.reduceLT, Nat.reduceEqDiff, QD, QE, aBin, ti41, z1, z2]) | (with_reducible refine Qj ?_) | ((with_reducible refine hK _ ?_); clear hK))
        simp only [QC, Ql, Qr, upd, ↓reduceIte, Qom, Qoq]; first | refine Qc (htake _ _) (.keep (.v _)) ⟨rfl, rfl⟩ | refine Qc List.take_length (.keep (.v _)) ⟨rfl, rfl⟩
    · have z1 : ¬ (t.size : Int) ≤ 200 := by omega
      rw [decide_eq_false q1]
      refine Qe Tryz.func42 rfl Tryz.call42 Tryz.ntmps42 (congrArg Array.toList Tryz.results42) (by simp) ?_
      repeat (first | ((first | (with_reducible (first | refine Qa fun K E hK hE => ?_ | refine Qk c1 ?_ | refine Qk c2 ?_))); simp -implicitDefEqProofs only [Qg, Qf, OpW, QI, aop, undef, AS.ev, Qu, AV.QnA, ↓reduceIte, Nat.reduceAdd, Nat.reduceLT, Nat.reduceEqDiff, QD, QE, aBin, ti41, z1]) | (with_reducible refine Qj ?_) | ((with_reducible refine hK _ ?_); clear hK))
      simp only [QC, Ql, Qr, upd, ↓reduceIte, Qom, Qoq]; first | refine Qc (htake _ _) (.keep (.v _)) ⟨rfl, rfl⟩ | refine Qc List.take_length (.keep (.v _)) ⟨rfl, rfl⟩
theorem QbF (l : List T) (hn : ndsL l ≤ 1000000) (ho : oks l) : Pure Tryz.prog 48 [.sl 4 (avs l) none] (.b (runL l 200 20).1) := by
  intro h
  have hll := QW l
  rw [← Qjb]
  refine Qe Tryz.func48 rfl Tryz.call48 Tryz.ntmps48 (congrArg Array.toList Tryz.results48) (by simp) ?_
  repeat (first | (((with_reducible refine Qa fun K E hK hE => ?_)); simp -implicitDefEqProofs only [Qg, Qf, OpW, aop, AS.ev, Nat.reduceLT]) | (with_reducible (first | refine Qd fun K hK => ?_ | refine Qi ?_)) | ((with_reducible refine hK _ ?_); clear hK))
  obtain ⟨I, hI⟩ : ∃ I : Nat → AS → Prop, I = fun m' s => ∃ (k n : Nat), m' = l.length - k ∧ k ≤ l.length ∧ n + sizes (l.drop k) ≤ 1000000 ∧ rargs l 0 = rargs (l.drop k) n ∧ s.tm 0 = .sl 4 (avs l) none ∧ s.tm 3 = .i n ∧ s.tm 4 = .i k ∧ s.h = h := ⟨_, rfl⟩; refine QK I ?_ (m := l.length) ?_
  · intro m' s hs; rw [hI] at hs; obtain ⟨tm, hp⟩ := s; dsimp only at hs; obtain ⟨k, n, rfl, hk, hs, he, t0, t3, t4, rfl⟩ := hs
    by_cases hlt : k < l.length
    · have hg := Xb hlt
      have z9 : (k : Int) < l.length := by omega
      have hnk : (l[k]).nds ≤ 1000000 := by have := Yc hlt; omega
      have c := Y4 l[k] hnk (ZL hlt ho)
      have c2 := Qb2 1000000 l[k] (by have := T.QnG l[k]; omega) (Nat.le_refl _)
      rw [List.drop_eq_getElem_cons hlt, rargs] at he
      rw [List.drop_eq_getElem_cons hlt, sizes] at hs
      have hw : IntKind.i64.wrap ((n : Int) + ((l[k]).size : Nat)) = ((n + (l[k]).size : Nat) : Int) := by rw [Xj (by omega)]; omega
      cases hr : ((l[k]).run 200 20).1 with
      | true =>
        rw [hr] at c he
        repeat (first | ((first | (with_reducible (first | refine Qa fun K E hK hE => ?_ | refine Qm fun K E hK hE => ?_ | refine Qk c ?_ | refine Qk c2 ?_))); simp -implicitDefEqProofs only [Qg, Qf, OpW, QI, aop, AS.ev, ↓reduceIte, Nat.reduceAdd, Nat.reduceLT, Nat.reduceEqDiff, QD, QE, Qz, aBin, aLen, goInt, ei29, un29, ti41, t0, t3, t4, z9, hg, hw]) | (with_reducible (first | refine Qd fun K hK => ?_ | refine Qi ?_ | refine Qn ?_ | refine Qb ?_ | refine Qo ?_)) | ((with_reducible refine hK _ ?_); clear hK) | (refine Qh rfl ?_; simp only [↓reduceIte, Qok]))
        refine Q4.mk (m' := l.length - (k + 1)) (by omega) ?_
        rw [hI]
        refine ⟨k + 1, n + (l[k]).size, rfl, hlt, by omega, by rw [he]; rfl, t0, rfl, ?_, rfl⟩
        simp only [upd, ↓reduceIte]
        rw [QT (by omega)]
      | false =>
        rw [hr] at c he
        repeat (first | ((first | (with_reducible (first | refine Qa fun K E hK hE => ?_ | refine Qk c ?_))); simp -implicitDefEqProofs only [Qg, Qf, OpW, QI, aop, AS.ev, ↓reduceIte, Nat.reduceAdd, Nat.reduceLT, Nat.reduceEqDiff, QD, QE, Qz, aBin, aLen, goInt, ei29, un29, ti41, t0, t4, z9, hg]) | (with_reducible (first | refine Qd fun K hK => ?_ | refine Qi ?_ | refine Qj ?_ | refine Qn ?_ | refine Qb ?_ | refine Qp ?_ | refine Qs ?_)) | ((with_reducible refine hK _ ?_); clear hK) | (refine Qh rfl ?_; simp only [↓reduceIte]))
        simp only [QC, Ql, Qr, upd, ↓reduceIte, Qom, Qoq]
        exact Qc (Qhp _) (.keep (.v _)) ⟨by rw [he]; rfl, rfl⟩
    · have z9 : ¬ (k : Int) < l.length := by omega
      have hkl : k = l.length := by omega
      rw [hkl, List.drop_length, rargs] at he
      by_cases q : n ≤ 200
      · have z1 : (n : Int) ≤ 200 := by omega
        repeat (first | (((with_reducible refine Qa fun K E hK hE => ?_)); simp -implicitDefEqProofs only [Qg, Qf, OpW, aop, AS.ev, ↓reduceIte, Nat.reduceLT, Nat.reduceEqDiff, aBin, aLen, goInt, un29, t0, t3, t4, z9, z1]) | (with_reducible (first | refine Qd fun K hK => ?_ | refine Qj ?_ | refine QB ?_ | refine Qb ?_ | refine Qw ?_ | refine Qv ?_)) | ((with_reducible refine hK _ ?_); clear hK) | (clear hK; (with_reducible refine hK _ ?_); clear hK) | (refine Qh rfl ?_; simp only [↓reduceIte, Qok]))
        simp only [QC, Ql, Qr, upd, ↓reduceIte, Qom, Qoq]
        exact Qc (Qhp _) (.keep (.v _)) ⟨by rw [he, decide_eq_true q], rfl⟩
      · have z1 : ¬ (n : Int) ≤ 200 := by omega
        repeat (first | (((with_reducible refine Qa fun K E hK hE => ?_)); simp -implicitDefEqProofs only [Qg, Qf, OpW, aop, AS.ev, ↓reduceIte, Nat.reduceLT, Nat.reduceEqDiff, aBin, aLen, goInt, un29, t0, t3, t4, z9, z1]) | (with_reducible (first | refine Qd fun K hK => ?_ | refine Qj ?_ | refine QB ?_ | refine Qb ?_ | refine Qw ?_ | refine Qv ?_)) | ((with_reducible refine hK _ ?_); clear hK) | (clear hK; (with_reducible refine hK _ ?_); clear hK) | (refine Qh rfl ?_; simp only [↓reduceIte, Qok]))
        simp only [QC, Ql, Qr, upd, ↓reduceIte, Qom, Qoq]
        exact Qc (Qhp _) (.keep (.v _)) ⟨by rw [he, decide_eq_false q], rfl⟩
  · rw [hI]
    exact ⟨0, 0, by omega, Nat.zero_le _, by have := Z0 l; simp only [Qox]; omega, by rw [List.drop_zero], rfl, rfl, rfl, rfl⟩
theorem Zb (g : G) (hn : ndsL g.args ≤ 1000000) (ho : g.ok) : Pure Tryz.prog 19 [g.atom] (.b (QS g)) := by
  intro h
  obtain ⟨o1, o2, o3⟩ := ho
  have cr : Pure Tryz.prog 47 [.v (.string g.name)] (.b (Yd g.name)) := QaX g.name (by simp only [maxLen]; omega)
  have ca := QbF g.args hn o3
  cases hr : Yd g.name with
  | false =>
    rw [hr] at cr
    refine Qe Tryz.func19 rfl Tryz.call19 Tryz.ntmps19 (congrArg Array.toList Tryz.results19) (by simp) ?_
    repeat (first | ((first | (with_reducible (first | refine Qa fun K E hK hE => ?_ | refine Qk cr ?_))); simp -implicitDefEqProofs only [Qg, Qf, OpW, QI, aop, undef, AS.ev, Qu, AV.QnA, ↓reduceIte, Nat.reduceAdd, Nat.reduceLT, Nat.reduceEqDiff, Qq, QD, QE, ti9, YM, QR]) | (with_reducible refine Qj ?_) | ((with_reducible refine hK _ ?_); clear hK))
    simp only [QC, Ql, Qr, upd, ↓reduceIte, Qom, Qoq]; first | refine Qc (htake _ _) (.keep (.v _)) ⟨by rw [QS, hr]; rfl, rfl⟩ | refine Qc List.take_length (.keep (.v _)) ⟨by rw [QS, hr]; rfl, rfl⟩
  | true =>
    rw [hr] at cr
    by_cases q : g.args.length ≤ 6
    · have z : (g.args.length : Int) ≤ 6 := by omega
      refine Qe Tryz.func19 rfl Tryz.call19 Tryz.ntmps19 (congrArg Array.toList Tryz.results19) (by simp) ?_
      repeat (first | ((first | (with_reducible (first | refine Qa fun K E hK hE => ?_ | refine Qk cr ?_ | refine Qk ca ?_))); simp -implicitDefEqProofs only [Qg, Qf, OpW, QI, aop, undef, AS.ev, Qu, AV.QnA, ↓reduceIte, Nat.reduceAdd, Nat.reduceLT, Nat.reduceEqDiff, Qq, QD, QE, aBin, aLen, goInt, ti9, ti29, un29, YM, YN, QR, z]) | (with_reducible refine Qj ?_) | ((with_reducible refine hK _ ?_); clear hK))
      simp only [QC, Ql, Qr, upd, ↓reduceIte, Qom, Qoq]; first | refine Qc (htake _ _) (.keep (.v _)) ⟨by rw [QS, hr, decide_eq_true q]; rfl, rfl⟩ | refine Qc List.take_length (.keep (.v _)) ⟨by rw [QS, hr, decide_eq_true q]; rfl, rfl⟩
    · have z : ¬ (g.args.length : Int) ≤ 6 := by omega
      refine Qe Tryz.func19 rfl Tryz.call19 Tryz.ntmps19 (congrArg Array.toList Tryz.results19) (by simp) ?_
      repeat (first | ((first | (with_reducible (first | refine Qa fun K E hK hE => ?_ | refine Qk cr ?_))); simp -implicitDefEqProofs only [Qg, Qf, OpW, QI, aop, undef, AS.ev, Qu, AV.QnA, ↓reduceIte, Nat.reduceAdd, Nat.reduceLT, Nat.reduceEqDiff, Qq, QD, QE, aBin, aLen, goInt, ti9, ti29, un29, YM, YN, QR, z]) | (with_reducible refine Qj ?_) | ((with_reducible refine hK _ ?_); clear hK))
      simp only [QC, Ql, Qr, upd, ↓reduceIte, Qom, Qoq]; first | refine Qc (htake _ _) (.keep (.v _)) ⟨by rw [QS, hr, decide_eq_false q]; rfl, rfl⟩ | refine Qc List.take_length (.keep (.v _)) ⟨by rw [QS, hr, decide_eq_false q]; rfl, rfl⟩
end Go.Proofs.YtniljpjjnmkoaaaGreatDoor.Ab
set_option maxRecDepth 4000
namespace Go.Proofs.YtniljpjjnmkoaaaGreatDoor.Ab
open Go.Proofs
theorem Qjl {s : ByteArray} (f : Int) (h : opB s = true) : ¬ QaK f s := by
  simp only [opB, Bool.or_eq_true, beq_iff_eq, Lib.toList_data] at h
  have stop : ∀ c : UInt8, s.data.toList = [c] → ¬ fol ((c.toNat : Nat) : Int) → ¬ QaK f s := fun c hl hc hw => by
    have := hw.2.2.2 0 hw.1
    unfold byteAt at this
    rw [hl] at this
    exact hc this
  rcases h with (((h | h) | h) | h) | h
  · exact stop _ h (by decide)
  · exact stop _ h (by decide)
  · exact stop _ h (by decide)
  · exact stop _ h (by decide)
  · exact stop _ h (by decide)
theorem Qip {s : ByteArray} (h : opB s = true) : Yd s = false := by
  rw [Yd, decide_eq_false (Qjl 1 h), Bool.false_and]
theorem QmL {s : ByteArray} (h : opB s = false) : ofB s = 0 := by
  simp only [opB, Bool.or_eq_false_iff] at h
  obtain ⟨⟨⟨⟨h1, h2⟩, h3⟩, h4⟩, h5⟩ := h
  rw [ofB, h1, h2, h3, h4, h5]; rfl
theorem Qi4 {s : ByteArray} (h : opB s = true) : ofB s = if ((s.toList == ({ data := #[43] } : ByteArray).toList) || (s.toList == ({ data := #[45] } : ByteArray).toList)) = true then 1 else 2 := by
  rw [ofB]
  cases h1 : (s.toList == ({ data := #[43] } : ByteArray).toList) || (s.toList == ({ data := #[45] } : ByteArray).toList) with
  | true => rfl
  | false =>
    simp only [opB, h1, Bool.false_or] at h
    rw [if_neg (by simp), if_pos h, if_neg (by simp)]
def T.strI (t : T) : Int := if t.kind ≠ 2 ∨ opB t.name = false then 3 else ofB t.name
theorem Qa5 (t : T) : Pure Tryz.prog 139 [t.av] (.i t.strI) := by
  intro h
  have co := ZH t.name
  by_cases k2 : t.kind = 2
  · have z2 : (t.kind != 2) = false := by simp [k2]
    cases ho : opB t.name with
    | false =>
      rw [ho] at co
      rw [T.strI, if_pos (.inr ho)]
      refine Qe Tryz.func139 rfl Tryz.call139 Tryz.ntmps139 (congrArg Array.toList Tryz.results139) (by simp) ?_
      repeat (first | ((first | (with_reducible (first | refine Qa fun K E hK hE => ?_ | refine Qk co ?_))); simp -implicitDefEqProofs only [Qg, Qf, OpW, QI, aop, undef, AS.ev, Qu, AV.QnA, ↓reduceIte, Nat.reduceAdd, Nat.reduceLT, Nat.reduceEqDiff, Qq, QD, QE, aBin, ti3, ti9, QV, Xc, z2]) | (with_reducible (first | refine Qd fun K hK => ?_ | refine Qj ?_ | refine Qp ?_)) | ((with_reducible refine hK _ ?_); clear hK) | (refine Qh rfl ?_; simp only [↓reduceIte]))
      simp only [QC, Ql, Qr, upd, ↓reduceIte, Qom, Qoq]; first | refine Qc (htake _ _) (.keep (.v _)) ⟨rfl, rfl⟩ | refine Qc List.take_length (.keep (.v _)) ⟨rfl, rfl⟩
    | true =>
      have e := Qi4 ho
      rw [ho] at co
      rw [T.strI, if_neg (by rw [ho]; simp [k2]), e]
      cases b1 : (t.name.toList == ({ data := #[43] } : ByteArray).toList) with
      | true =>
        refine Qe Tryz.func139 rfl Tryz.call139 Tryz.ntmps139 (congrArg Array.toList Tryz.results139) (by simp) ?_
        repeat (first | ((first | (with_reducible (first | refine Qa fun K E hK hE => ?_ | refine Qk co ?_))); simp -implicitDefEqProofs only [Qg, Qf, OpW, QI, aop, undef, AS.ev, Qu, AV.QnA, ↓reduceIte, Nat.reduceAdd, Nat.reduceLT, Nat.reduceEqDiff, Qq, QD, QE, aBin, ti3, ti9, QV, Xc, z2, b1]) | (with_reducible (first | refine Qd fun K hK => ?_ | refine Qj ?_ | refine Qn ?_ | refine Qb ?_ | refine Qp ?_)) | ((with_reducible refine hK _ ?_); clear hK) | (refine Qh rfl ?_; simp only [↓reduceIte, Qok]))
        simp only [QC, Ql, Qr, upd, ↓reduceIte, Qom, Qoq]; first | refine Qc (htake _ _) (.keep (.v _)) ⟨rfl, rfl⟩ | refine Qc List.take_length (.keep (.v _)) ⟨rfl, rfl⟩
      | false =>
        cases b2 : (t.name.toList == ({ data := #[45] } : ByteArray).toList) with
        | true =>
          refine Qe Tryz.func139 rfl Tryz.call139 Tryz.ntmps139 (congrArg Array.toList Tryz.results139) (by simp) ?_
          repeat (first | ((first | (with_reducible (first | refine Qa fun K E hK hE => ?_ | refine Qk co ?_))); simp -implicitDefEqProofs only [Qg, Qf, OpW, QI, aop, undef, AS.ev, Qu, AV.QnA, ↓reduceIte, Nat.reduceAdd, Nat.reduceLT, Nat.reduceEqDiff, Qq, QD, QE, aBin, ti3, ti9, QV, Xc, z2, b1, b2]) | (with_reducible (first | refine Qd fun K hK => ?_ | refine Qj ?_ | refine Qn ?_ | refine Qb ?_ | refine Qp ?_)) | ((with_reducible refine hK _ ?_); clear hK) | (refine Qh rfl ?_; simp only [↓reduceIte, Qok]))
          simp only [QC, Ql, Qr, upd, ↓reduceIte, Qom, Qoq]; first | refine Qc (htake _ _) (.keep (.v _)) ⟨rfl, rfl⟩ | refine Qc List.take_length (.keep (.v _)) ⟨rfl, rfl⟩
        | false =>
          refine Qe Tryz.func139 rfl Tryz.call139 Tryz.ntmps139 (congrArg Array.toList Tryz.results139) (by simp) ?_
          repeat (first | ((first | (with_reducible (first | refine Qa fun K E hK hE => ?_ | refine Qk co ?_))); simp -implicitDefEqProofs only [Qg, Qf, OpW, QI, aop, undef, AS.ev, Qu, AV.QnA, ↓reduceIte, Nat.reduceAdd, Nat.reduceLT, Nat.reduceEqDiff, Qq, QD, QE, aBin, ti3, ti9, QV, Xc, z2, b1, b2]) | (with_reducible (first | refine Qd fun K hK => ?_ | refine Qj ?_ | refine Qn ?_ | refine Qb ?_)) | ((with_reducible refine hK _ ?_); clear hK) | (refine Qh rfl ?_; simp only [↓reduceIte, Qok]))
          simp only [QC, Ql, Qr, upd, ↓reduceIte, Qom, Qoq]; first | refine Qc (htake _ _) (.keep (.v _)) ⟨rfl, rfl⟩ | refine Qc List.take_length (.keep (.v _)) ⟨rfl, rfl⟩
  · have z2 : (t.kind != 2) = true := by simp [k2]
    rw [T.strI, if_pos (.inl k2)]
    refine Qe Tryz.func139 rfl Tryz.call139 Tryz.ntmps139 (congrArg Array.toList Tryz.results139) (by simp) ?_
    repeat (first | (((with_reducible refine Qa fun K E hK hE => ?_)); simp -implicitDefEqProofs only [Qg, Qf, OpW, aop, undef, AS.ev, Qu, AV.QnA, ↓reduceIte, Nat.reduceAdd, Nat.reduceLT, Nat.reduceEqDiff, Qq, QD, QE, aBin, ti3, QV, z2]) | (with_reducible (first | refine Qd fun K hK => ?_ | refine Qj ?_ | refine Qp ?_)) | ((with_reducible refine hK _ ?_); clear hK) | (refine Qh rfl ?_; simp only [↓reduceIte]))
    simp only [QC, Ql, Qr, upd, ↓reduceIte, Qom, Qoq]; first | refine Qc (htake _ _) (.keep (.v _)) ⟨rfl, rfl⟩ | refine Qc List.take_length (.keep (.v _)) ⟨rfl, rfl⟩
theorem T.QnQ {t : T} (hf : t.QnB = true) (k2 : t.kind = 2) : t.int = 0 ∧ t.args.length ≤ 6 ∧ (Yd t.name = true ∨ opB t.name = true ∧ t.args.length = 2) ∧ XF t.args = true := by
  rw [T.QnC, if_neg (by omega), if_neg (by omega), if_pos k2] at hf
  split at hf
  · cases hf
  rename_i h1
  split at hf
  · cases hf
  rename_i h2
  refine ⟨by omega, by omega, ?_, hf⟩
  cases hr : Yd t.name with
  | true => exact .inl rfl
  | false =>
    refine .inr ?_
    rw [hr] at h2
    cases ho : opB t.name with
    | false => rw [ho] at h2; exact absurd rfl h2
    | true =>
      rw [ho] at h2
      refine ⟨rfl, ?_⟩
      apply Classical.byContradiction
      intro hc
      rw [decide_eq_false hc] at h2
      exact h2 rfl
theorem T.QnM {t : T} (hf : t.QnB = true) : t.strI = if t.oper = 0 then 3 else t.oper := by
  by_cases k2 : t.kind = 2
  · obtain ⟨_, _, hn, _⟩ := T.QnQ hf k2
    cases ho : opB t.name with
    | false =>
      have e : t.oper = 0 := by rw [T.oper, QmL ho]; simp
      rw [T.strI, if_pos (.inr ho), e, if_pos rfl]
    | true =>
      have hl : t.args.length = 2 := by
        rcases hn with hn | hn
        · rw [Qip ho] at hn; cases hn
        · exact hn.2
      have e : t.oper = ofB t.name := by rw [T.oper, if_neg (by omega)]
      have e2 : ofB t.name ≠ 0 := by rw [Qi4 ho]; split <;> decide
      rw [T.strI, if_neg (by rw [ho]; simp [k2]), e, if_neg e2]
  · have e : t.oper = 0 := by rw [T.oper, if_pos (.inl k2)]
    rw [T.strI, if_pos (.inl k2), e, if_pos rfl]
theorem T.QnP (t : T) : t.oper = 0 ∨ t.oper = 1 ∨ t.oper = 2 := by
  rw [T.oper]; split
  · exact .inl rfl
  · rw [ofB]; split
    · exact .inr (.inl rfl)
    · split
      · exact .inr (.inr rfl)
      · exact .inl rfl
theorem T.QnJ {t : T} (hf : t.QnB = true) : t.lex ∧ t.txt.size + 4 ≤ 60 * t.size ∧ 0 < t.txt.size := by
  have hr : (t.run t.size t.dep).1 = true := by rw [(T.QnH t t.size t.dep).1, hf, decide_eq_true ⟨Int.le_refl _, Int.le_refl _⟩]; rfl
  obtain ⟨h1, h2, h3, _⟩ := T.QnN t t.size t.dep hr
  rw [(T.QnH t t.size t.dep).2 hr] at h2
  exact ⟨h1, by omega, h3⟩
theorem Qfx {l : List T} (hf : XF l = true) : (X5 true (txts l)).size ≤ 60 * sizes l := by
  have hr : (runL l (sizes l) (deps l)).1 = true := by rw [(ZS l (sizes l) (deps l) (by omega) (by omega)).1, hf, decide_eq_true ⟨Int.le_refl _, Int.le_refl _⟩]; rfl
  obtain ⟨_, h2, _⟩ := Qct l (sizes l) (deps l) hr
  rw [(ZS l (sizes l) (deps l) (by omega) (by omega)).2 hr] at h2
  have := QeX (txts l) true
  omega
theorem Qap : ∀ {l : List T}, XF l = true → ∀ t ∈ l, t.QnB = true
  | x :: l, h, t, ht => by
    simp only [XF, Bool.and_eq_true] at h
    rcases List.mem_cons.1 ht with rfl | ht
    · exact h.1
    · exact Qap h.2 t ht
theorem Qc9 : ∀ {l : List T} (k : Nat), XF l = true → XF (l.take k) = true
  | [], k, h => by simp [XF]
  | x :: l, 0, h => rfl
  | x :: l, k + 1, h => by
    simp only [XF, Bool.and_eq_true, Qor] at h ⊢
    exact ⟨h.1, Qc9 k h.2⟩
theorem QdW (x : ByteArray) : ∀ (l : List ByteArray) (f : Bool), X5 f (l ++ [x]) = X5 f l ++ (if f && l.isEmpty then x else QaE ++ x)
  | [], f => by
    simp only [QoH, X5, QoW, QoZ, ByteArray.append_empty]
    rw [show (ByteArray.empty ++ if f = true then x else QaE ++ x) = if f = true then x else QaE ++ x from ByteArray.empty_append]
  | y :: l, f => by
    rw [List.cons_append, X5, X5, QdW x l false, ByteArray.append_assoc]
    simp
theorem Qgy (a b : List T) : txts (a ++ b) = txts a ++ txts b := by simp only [QiL, List.map_append]
theorem QdC {l : List T} {k : Nat} (h : k < l.length) : txts (l.take (k + 1)) = txts (l.take k) ++ [(l[k]).txt] := by
  rw [List.take_succ_eq_append_getElem h, Qgy]; rfl
def WrP (n : Nat) : Prop := ∀ t : T, t.nds ≤ n → t.QnB = true → t.ok → Pure Tryz.prog 109 [t.av] (.v (.string t.txt))
theorem Z4 (n : Nat) (ih : WrP n) (hb : n ≤ 1000000) (t : T) (hn : t.nds ≤ n) (hf : t.QnB = true) (ho : t.ok) (p q : Int) (hp : 0 ≤ p ∧ p ≤ 9) (hq : 0 ≤ q ∧ q ≤ 9) :
    Pure Tryz.prog 140 [t.av, .i p, .i q] (.v (.string (encB (decide (t.strI < p + q)) t.txt))) := by
  intro h
  have c1 := Qa5 t
  have c2 := ih t hn hf ho
  have hw : IntKind.i64.wrap (p + q) = p + q := Xj (by omega)
  obtain ⟨_, hs, _⟩ := T.QnJ hf
  have hsz := T.QnG t
  have hsa1 := fun xo yo => Xe Tryz.prog 9 xo yo ({ data := #[40] } : ByteArray) t.txt (by have : ({ data := #[40] } : ByteArray).size = 1 := rfl; omega)
  have hsa2 := fun xo yo => Xe Tryz.prog 9 xo yo (({ data := #[40] } : ByteArray) ++ t.txt) ({ data := #[41] } : ByteArray) (by rw [QA]; have : ({ data := #[40] } : ByteArray).size = 1 := rfl; have : ({ data := #[41] } : ByteArray).size = 1 := rfl; omega)
  by_cases z : t.strI < p + q
  · rw [decide_eq_true z, encB, if_pos rfl]
    refine Qe Tryz.func140 rfl Tryz.call140 Tryz.ntmps140 (congrArg Array.toList Tryz.results140) (by simp) ?_
    repeat (first | ((first | (with_reducible (first | refine Qa fun K E hK hE => ?_ | refine Qk c1 ?_ | refine Qk c2 ?_))); simp -implicitDefEqProofs only [Qg, Qf, OpW, QI, aop, undef, AS.ev, Qu, AV.QnA, ↓reduceIte, Nat.reduceAdd, Nat.reduceLT, Nat.reduceEqDiff, QD, QE, aBin, ti41, hw, z, hsa1, hsa2]) | (with_reducible (first | refine Qd fun K hK => ?_ | refine Qj ?_ | refine Qp ?_)) | ((with_reducible refine hK _ ?_); clear hK) | (refine Qh rfl ?_; simp only [↓reduceIte]))
    simp only [QC, Ql, Qr, upd, ↓reduceIte, Qom, Qoq]; first | refine Qc (htake _ _) (.keep (.v _)) ⟨rfl, rfl⟩ | refine Qc List.take_length (.keep (.v _)) ⟨rfl, rfl⟩
  · rw [decide_eq_false z, encB, if_neg (by simp)]
    refine Qe Tryz.func140 rfl Tryz.call140 Tryz.ntmps140 (congrArg Array.toList Tryz.results140) (by simp) ?_
    repeat (first | ((first | (with_reducible (first | refine Qa fun K E hK hE => ?_ | refine Qk c1 ?_ | refine Qk c2 ?_))); simp -implicitDefEqProofs only [Qg, Qf, OpW, QI, aop, undef, AS.ev, Qu, AV.QnA, ↓reduceIte, Nat.reduceAdd, Nat.reduceLT, Nat.reduceEqDiff, QD, QE, aBin, ti41, hw, z]) | (with_reducible (first | refine Qd fun K hK => ?_ | refine Qj ?_ | refine Qn ?_ | refine Qb ?_)) | ((with_reducible refine hK _ ?_); clear hK) | (refine Qh rfl ?_; simp only [↓reduceIte, Qok]))
    simp only [QC, Ql, Qr, upd, ↓reduceIte, Qom, Qoq]; first | refine Qc (htake _ _) (.keep (.v _)) ⟨rfl, rfl⟩ | refine Qc List.take_length (.keep (.v _)) ⟨rfl, rfl⟩
theorem Qe4 (n : Nat) (ih : WrP n) (hb : n ≤ 1000000) (l : List T) (hn : ndsL l ≤ n) (hf : XF l = true) (ho : oks l) :
    Pure Tryz.prog 141 [.sl 4 (avs l) none] (.v (.string (X5 true (txts l)))) := by
  intro h
  have hll := QW l
  have hsl := Z0 l
  refine Qe Tryz.func141 rfl Tryz.call141 Tryz.ntmps141 (congrArg Array.toList Tryz.results141) (by simp) ?_
  repeat (first | (((with_reducible refine Qa fun K E hK hE => ?_)); simp -implicitDefEqProofs only [Qg, Qf, OpW, aop, AS.ev, Nat.reduceLT]) | (with_reducible (first | refine Qd fun K hK => ?_ | refine Qi ?_)) | ((with_reducible refine hK _ ?_); clear hK))
  obtain ⟨I, hI⟩ : ∃ I : Nat → AS → Prop, I = fun m' s => ∃ k : Nat, m' = l.length - k ∧ k ≤ l.length ∧ s.tm 0 = .sl 4 (avs l) none ∧ s.tm 3 = .v (.string (X5 true (txts (l.take k)))) ∧ s.tm 4 = .i k ∧ s.h = h := ⟨_, rfl⟩; refine QK I ?_ (m := l.length) ?_
  · intro m' s hs; rw [hI] at hs; obtain ⟨tm, hp⟩ := s; dsimp only at hs; obtain ⟨k, rfl, hk, t0, t3, t4, rfl⟩ := hs
    by_cases hlt : k < l.length
    · have hg := Xb hlt
      have z9 : (k : Int) < l.length := by omega
      have hm := List.getElem_mem hlt
      have hfk := Qap hf _ hm
      have hnk : (l[k]).nds ≤ n := Nat.le_trans (Yc hlt) hn
      have c := ih l[k] hnk hfk (ZL hlt ho)
      have hs1 := Qfx (Qc9 k hf)
      have hs2 := Zs l k
      obtain ⟨_, hs3, _⟩ := T.QnJ hfk
      have hs4 := T.QnG l[k]
      have hsc : ({ data := #[44, 32] } : ByteArray).size = 2 := rfl
      have hj : X5 true (txts (l.take (k + 1))) = X5 true (txts (l.take k)) ++ (if (true && (txts (l.take k)).isEmpty) = true then (l[k]).txt else QaE ++ (l[k]).txt) := by
        rw [QdC hlt, QdW]
      obtain ⟨J, eJ⟩ : ∃ J, J = X5 true (txts (l.take k)) := ⟨_, rfl⟩
      rw [← eJ] at t3 hs1 hj
      have hsa1 := fun xo yo => Xe Tryz.prog 9 xo yo J ({ data := #[44, 32] } : ByteArray) (by omega)
      have hsa2 := fun xo yo => Xe Tryz.prog 9 xo yo (J ++ ({ data := #[44, 32] } : ByteArray)) (l[k]).txt (by rw [QA]; omega)
      have hsa3 := fun xo yo => Xe Tryz.prog 9 xo yo J (l[k]).txt (by omega)
      by_cases k0 : k = 0
      · have z0 : ¬ (k : Int) > 0 := by omega
        have hj' : X5 true (txts (l.take (k + 1))) = J ++ (l[k]).txt := by
          have hem : (txts (l.take k)).isEmpty = true := by rw [k0]; rfl
          rw [hj, hem]; rfl
        repeat (first | ((first | (with_reducible (first | refine Qa fun K E hK hE => ?_ | refine Qm fun K E hK hE => ?_ | refine Qk c ?_))); simp -implicitDefEqProofs only [Qg, Qf, OpW, QI, aop, AS.ev, ↓reduceIte, Nat.reduceAdd, Nat.reduceLT, Nat.reduceEqDiff, QD, QE, Qz, aBin, aLen, goInt, ei29, un29, ti41, t0, t3, t4, z9, z0, hg, hsa3]) | (with_reducible (first | refine Qd fun K hK => ?_ | refine Qi ?_ | refine Qn ?_ | refine Qb ?_ | refine Qo ?_)) | ((with_reducible refine hK _ ?_); clear hK) | (refine Qh rfl ?_; simp only [↓reduceIte, Qok]))
        refine Q4.mk (m' := l.length - (k + 1)) (by omega) ?_
        rw [hI]
        refine ⟨k + 1, rfl, hlt, t0, ?_, ?_, rfl⟩
        · simp only [upd, ↓reduceIte, Nat.reduceEqDiff]
          rw [hj']
        · simp only [upd, ↓reduceIte]
          rw [QT (by omega)]
      · have z0 : (k : Int) > 0 := by omega
        have hj' : X5 true (txts (l.take (k + 1))) = (J ++ ({ data := #[44, 32] } : ByteArray)) ++ (l[k]).txt := by
          have hne : (txts (l.take k)).isEmpty = false := by
            cases hh : txts (l.take k) with
            | nil => have := congrArg List.length hh; rw [Zx, List.length_take] at this; simp only [Qou] at this; omega
            | cons => rfl
          rw [hj, hne, ByteArray.append_assoc]; rfl
        repeat (first | ((first | (with_reducible (first | refine Qa fun K E hK hE => ?_ | refine Qm fun K E hK hE => ?_ | refine Qk c ?_))); simp -implicitDefEqProofs only [Qg, Qf, OpW, QI, aop, AS.ev, ↓reduceIte, Nat.reduceAdd, Nat.reduceLT, Nat.reduceEqDiff, QD, QE, Qz, aBin, aLen, goInt, ei29, un29, ti41, t0, t3, t4, z9, z0, hg, hsa1, hsa2]) | (with_reducible (first | refine Qd fun K hK => ?_ | refine Qi ?_ | refine Qn ?_ | refine Qb ?_ | refine Qo ?_)) | ((with_reducible refine hK _ ?_); clear hK) | (refine Qh rfl ?_; simp only [↓reduceIte]))
        refine Q4.mk (m' := l.length - (k + 1)) (by omega) ?_
        rw [hI]
        refine ⟨k + 1, rfl, hlt, t0, ?_, ?_, rfl⟩
        · simp only [upd, ↓reduceIte, Nat.reduceEqDiff]
          rw [hj']
        · simp only [upd, ↓reduceIte]
          rw [QT (by omega)]
    · have z9 : ¬ (k : Int) < l.length := by omega
      have hkl : k = l.length := by omega
      rw [hkl, List.take_length] at t3
      repeat (first | (((with_reducible refine Qa fun K E hK hE => ?_)); simp -implicitDefEqProofs only [Qg, Qf, OpW, aop, AS.ev, ↓reduceIte, Nat.reduceLT, Nat.reduceEqDiff, aBin, aLen, goInt, un29, t0, t3, t4, z9]) | (with_reducible (first | refine Qd fun K hK => ?_ | refine Qj ?_ | refine QB ?_ | refine Qb ?_ | refine Qw ?_ | refine Qv ?_)) | ((with_reducible refine hK _ ?_); clear hK) | (clear hK; (with_reducible refine hK _ ?_); clear hK) | (refine Qh rfl ?_; simp only [↓reduceIte, Qok]))
      simp only [QC, Ql, Qr, upd, ↓reduceIte, Qom, Qoq]
      exact Qc (Qhp _) (.keep (.v _)) ⟨rfl, rfl⟩
  · rw [hI]
    exact ⟨0, by omega, Nat.zero_le _, rfl, rfl, rfl, rfl⟩
theorem QbR (n : Nat) (ih : WrP n) (hb : n ≤ 1000000) (nm : ByteArray) (hnm : nm.size ≤ 1000) (l : List T) (hn : ndsL l ≤ n) (hf : XF l = true) (ho : oks l) :
    Pure Tryz.prog 110 [.v (.string nm), .sl 4 (avs l) none] (.v (.string (funT nm (txts l)))) := by
  intro h
  have hll := QW l
  have hsl := Z0 l
  have c := Qe4 n ih hb l hn hf ho
  have hs1 := Qfx hf
  have h1 : ({ data := #[40] } : ByteArray).size = 1 := rfl
  have h2 : ({ data := #[41] } : ByteArray).size = 1 := rfl
  rw [funT, Zx]
  by_cases q : l = []
  · subst q
    have z : ((0 : Int) == 0) = true := rfl
    refine Qe Tryz.func110 rfl Tryz.call110 Tryz.ntmps110 (congrArg Array.toList Tryz.results110) (by simp) ?_
    repeat (first | (((with_reducible refine Qa fun K E hK hE => ?_)); simp -implicitDefEqProofs only [Qg, Qf, OpW, aop, undef, AS.ev, Qu, ↓reduceIte, Nat.reduceLT, Nat.reduceEqDiff, aBin, aLen, goInt, un29, ZA]) | (with_reducible (first | refine Qd fun K hK => ?_ | refine Qj ?_ | refine Qp ?_)) | ((with_reducible refine hK _ ?_); clear hK) | (refine Qh rfl ?_; simp only [↓reduceIte]))
    simp only [QC, Ql, Qr, upd, ↓reduceIte, Qom, Qoq]; first | refine Qc (htake _ _) (.keep (.v _)) ⟨by rw [encB, if_neg (by simp)]; simp only [txts, X5]; rw [show nm ++ ByteArray.empty = nm from ByteArray.append_empty], rfl⟩ | refine Qc List.take_length (.keep (.v _)) ⟨by rw [encB, if_neg (by simp)]; simp only [txts, X5]; rw [show nm ++ ByteArray.empty = nm from ByteArray.append_empty], rfl⟩
  · have hl0 : 0 < l.length := List.length_pos_iff.2 q
    have z : ((l.length : Int) == 0) = false := by rw [beq_eq_false_iff_ne]; omega
    obtain ⟨J, eJ⟩ : ∃ J, J = X5 true (txts l) := ⟨_, rfl⟩
    rw [← eJ] at c hs1 ⊢
    have hsa1 := fun xo yo => Xe Tryz.prog 9 xo yo nm ({ data := #[40] } : ByteArray) (by omega)
    have hsa2 := fun xo yo => Xe Tryz.prog 9 xo yo (nm ++ ({ data := #[40] } : ByteArray)) J (by rw [QA]; omega)
    have hsa3 := fun xo yo => Xe Tryz.prog 9 xo yo (nm ++ ({ data := #[40] } : ByteArray) ++ J) ({ data := #[41] } : ByteArray) (by rw [QA, QA]; omega)
    refine Qe Tryz.func110 rfl Tryz.call110 Tryz.ntmps110 (congrArg Array.toList Tryz.results110) (by simp) ?_
    repeat (first | ((first | (with_reducible (first | refine Qa fun K E hK hE => ?_ | refine Qk c ?_))); simp -implicitDefEqProofs only [Qg, Qf, OpW, QI, aop, undef, AS.ev, Qu, ↓reduceIte, Nat.reduceLT, Nat.reduceEqDiff, aBin, aLen, goInt, un29, z, hsa1, hsa2, hsa3]) | (with_reducible (first | refine Qd fun K hK => ?_ | refine Qj ?_ | refine Qn ?_ | refine Qb ?_)) | ((with_reducible refine hK _ ?_); clear hK) | (refine Qh rfl ?_; simp only [↓reduceIte, Qok]))
    simp only [QC, Ql, Qr, upd, ↓reduceIte, Qom, Qoq]; first | refine Qc (htake _ _) (.keep (.v _)) ⟨by rw [decide_eq_true hl0, encB, if_pos rfl]; simp only [ByteArray.append_assoc], rfl⟩ | refine Qc List.take_length (.keep (.v _)) ⟨by rw [decide_eq_true hl0, encB, if_pos rfl]; simp only [ByteArray.append_assoc], rfl⟩
theorem QaV (n : Nat) : n ≤ 1000000 → WrP n := by
  induction n with
  | zero => intro _ t hn _ _; have := T.QnE t; omega
  | succ n ih0 =>
    intro hb t hn hf ho h
    have ih : WrP n := ih0 (by omega)
    obtain ⟨o1, o2, o3, o4⟩ := (T.ok_eq t).1 ho
    have hnd := T.QnE t
    have hlx := (T.QnJ hf).1
    have ett : ∀ (e : t.oper = 0), t.txt = if t.kind = 0 then decZ t.int else if t.kind = 1 then vOf (decN t.int.toNat) else funT t.name (txts t.args) := fun e => by
      cases t with | mk k i nm l => rw [T.txt, if_neg (by rw [e]; simp)]; rfl
    by_cases k0 : t.kind = 0
    · have z0 : (t.kind == 0) = true := by simp [k0]
      have e0 : t.oper = 0 := by rw [T.oper, if_pos (.inl (by omega))]
      have hi : -9223372036854775807 ≤ t.int ∧ t.int ≤ 9223372036854775807 := by cases t with | mk k i nm l => exact hlx.1 k0
      have c := QkD t.int hi.1 hi.2
      rw [ett e0, if_pos k0]
      refine Qe Tryz.func109 rfl Tryz.call109 Tryz.ntmps109 (congrArg Array.toList Tryz.results109) (by simp) ?_
      repeat (first | ((first | (with_reducible (first | refine Qa fun K E hK hE => ?_ | refine Qk c ?_))); simp -implicitDefEqProofs only [Qg, Qf, OpW, QI, aop, undef, AS.ev, Qu, AV.QnA, ↓reduceIte, Nat.reduceAdd, Nat.reduceLT, Nat.reduceEqDiff, Qq, QD, QE, aBin, ti3, QV, Xa, z0]) | (with_reducible (first | refine Qd fun K hK => ?_ | refine Qi ?_ | refine Qj ?_ | refine Qp ?_ | refine Qs ?_)) | ((with_reducible refine hK _ ?_); clear hK) | (refine Qh rfl ?_; simp only [↓reduceIte]))
      simp only [QC, Ql, Qr, upd, ↓reduceIte, Qom, Qoq]; first | refine Qc (htake _ _) (.keep (.v _)) ⟨rfl, rfl⟩ | refine Qc List.take_length (.keep (.v _)) ⟨rfl, rfl⟩
    have z0 : (t.kind == 0) = false := by simp [k0]
    by_cases k1 : t.kind = 1
    · have z1 : (t.kind == 1) = true := by simp [k1]
      have e0 : t.oper = 0 := by rw [T.oper, if_pos (.inl (by omega))]
      have hi : 0 ≤ t.int ∧ t.int ≤ 1048576 := by cases t with | mk k i nm l => exact hlx.2.1 k1
      have c := QaP t.int.toNat (by omega)
      rw [show ((t.int.toNat : Nat) : Int) = t.int by omega] at c
      rw [ett e0, if_neg k0, if_pos k1]
      refine Qe Tryz.func109 rfl Tryz.call109 Tryz.ntmps109 (congrArg Array.toList Tryz.results109) (by simp) ?_
      repeat (first | ((first | (with_reducible (first | refine Qa fun K E hK hE => ?_ | refine Qk c ?_))); simp -implicitDefEqProofs only [Qg, Qf, OpW, QI, aop, undef, AS.ev, Qu, AV.QnA, ↓reduceIte, Nat.reduceAdd, Nat.reduceLT, Nat.reduceEqDiff, Qq, QD, QE, aBin, ti3, QV, Xa, z0, z1]) | (with_reducible (first | refine Qd fun K hK => ?_ | refine Qi ?_ | refine Qj ?_ | refine Qp ?_ | refine Qs ?_)) | ((with_reducible refine hK _ ?_); clear hK) | (refine Qh rfl ?_; simp only [↓reduceIte, Qok]))
      simp only [QC, Ql, Qr, upd, ↓reduceIte, Qom, Qoq]; first | refine Qc (htake _ _) (.keep (.v _)) ⟨rfl, rfl⟩ | refine Qc List.take_length (.keep (.v _)) ⟨rfl, rfl⟩
    have z1 : (t.kind == 1) = false := by simp [k1]
    have k2 : t.kind = 2 := by
      apply Classical.byContradiction
      intro k2
      rw [T.QnC, if_neg k0, if_neg k1, if_neg k2] at hf
      cases hf
    obtain ⟨_, hl6, hnm, hfs⟩ := T.QnQ hf k2
    have cs := Qa5 t
    have es := T.QnM hf
    have hns : t.name.size ≤ 1000 := by
      rcases hnm with h | h
      · have := Zp h; omega
      · by_cases hs1 : t.name.size = 1
        · omega
        · rw [Qcs hs1] at h; exact absurd h.1 (by simp)
    by_cases e0 : t.oper = 0
    · rw [if_pos e0] at es
      rw [es] at cs
      have z3 : ¬ (3 : Int) < 3 := by decide
      have c := QbR n ih (by omega) t.name hns t.args (by omega) hfs o4
      rw [ett e0, if_neg k0, if_neg k1]
      refine Qe Tryz.func109 rfl Tryz.call109 Tryz.ntmps109 (congrArg Array.toList Tryz.results109) (by simp) ?_
      repeat (first | ((first | (with_reducible (first | refine Qa fun K E hK hE => ?_ | refine Qk c ?_ | refine Qk cs ?_))); simp -implicitDefEqProofs only [Qg, Qf, OpW, QI, aop, undef, AS.ev, Qu, AV.QnA, ↓reduceIte, Nat.reduceAdd, Nat.reduceLT, Nat.reduceEqDiff, Qq, QD, QE, aBin, ti3, ti9, ti29, ti41, QV, Xc, Q7, z0, z1, z3]) | (with_reducible (first | refine Qd fun K hK => ?_ | refine Qi ?_ | refine Qj ?_ | refine Qn ?_ | refine Qb ?_ | refine Qo ?_)) | ((with_reducible refine hK _ ?_); clear hK) | (refine Qh rfl ?_; simp only [↓reduceIte, Qok]))
      simp only [QC, Ql, Qr, upd, ↓reduceIte, Qom, Qoq]; first | refine Qc (htake _ _) (.keep (.v _)) ⟨rfl, rfl⟩ | refine Qc List.take_length (.keep (.v _)) ⟨rfl, rfl⟩
    rw [if_neg e0] at es
    have hl2 : t.args.length = 2 := by
      apply Classical.byContradiction
      intro hc
      exact e0 (by rw [T.oper, if_pos (.inr hc)])
    obtain ⟨x, y, hxy⟩ : ∃ x y, t.args = [x, y] := by
      match hh : t.args, hl2 with
      | [x, y], _ => exact ⟨x, y, rfl⟩
    have er : t.oper = ofB t.name := by rw [T.oper, if_neg (by omega)]
    have ho12 := T.QnP t
    have hz : t.oper < 3 := by omega
    rw [es] at cs
    rw [hxy] at hfs o4
    have hfx : x.QnB = true := Qap hfs x (by simp)
    have hfy : y.QnB = true := Qap hfs y (by simp)
    have hox : x.ok := o4.1
    have hoy : y.ok := o4.2.1
    have hnx : x.nds ≤ n ∧ y.nds ≤ n := by rw [hxy] at hnd; simp only [ndsL] at hnd; omega
    have c1 := Z4 n ih (by omega) x hnx.1 hfx hox t.oper 0 (by omega) (by omega)
    have c2 := Z4 n ih (by omega) y hnx.2 hfy hoy t.oper 1 (by omega) (by omega)
    have ex : decide (x.strI < t.oper + 0) = ((x.oper == 1) && (ofB t.name == 2)) := by
      rw [T.QnM hfx, ← er]
      have := T.QnP x
      rw [Bool.eq_iff_iff, decide_eq_true_eq, Bool.and_eq_true, beq_iff_eq, beq_iff_eq]
      split <;> omega
    have ey : decide (y.strI < t.oper + 1) = ((y.oper != 0) && ((y.oper == 1) || (ofB t.name == 2))) := by
      rw [T.QnM hfy, ← er]
      have := T.QnP y
      rw [Bool.eq_iff_iff, decide_eq_true_eq, Bool.and_eq_true, Bool.or_eq_true, beq_iff_eq, beq_iff_eq, bne_iff_ne]
      split <;> omega
    rw [ex] at c1
    rw [ey] at c2
    have ett2 : t.txt = binT (ofB t.name) t.name x.oper y.oper x.txt y.txt := by
      cases t with | mk k i nm l =>
      simp only [T.args] at hxy
      subst hxy
      rw [T.txt, if_pos e0]; rfl
    obtain ⟨X, eX⟩ : ∃ X, X = encB ((x.oper == 1) && (ofB t.name == 2)) x.txt := ⟨_, rfl⟩
    obtain ⟨Y, eY⟩ : ∃ Y, Y = encB ((y.oper != 0) && ((y.oper == 1) || (ofB t.name == 2))) y.txt := ⟨_, rfl⟩
    have sx : X.size ≤ 60000002 := by
      have := QbG ((x.oper == 1) && (ofB t.name == 2)) x.txt
      have := (T.QnJ hfx).2.1
      have := T.QnG x
      rw [eX]; omega
    have sy : Y.size ≤ 60000002 := by
      have := QbG ((y.oper != 0) && ((y.oper == 1) || (ofB t.name == 2))) y.txt
      have := (T.QnJ hfy).2.1
      have := T.QnG y
      rw [eY]; omega
    rw [← eX] at c1
    rw [← eY] at c2
    have h1 : ({ data := #[32] } : ByteArray).size = 1 := rfl
    have hsa1 := fun xo yo => Xe Tryz.prog 9 xo yo X ({ data := #[32] } : ByteArray) (by omega)
    have hsa2 := fun xo yo => Xe Tryz.prog 9 xo yo (X ++ ({ data := #[32] } : ByteArray)) t.name (by rw [QA]; omega)
    have hsa3 := fun xo yo => Xe Tryz.prog 9 xo yo (X ++ ({ data := #[32] } : ByteArray) ++ t.name) ({ data := #[32] } : ByteArray) (by rw [QA, QA]; omega)
    have hsa4 := fun xo yo => Xe Tryz.prog 9 xo yo (X ++ ({ data := #[32] } : ByteArray) ++ t.name ++ ({ data := #[32] } : ByteArray)) Y (by rw [QA, QA, QA]; omega)
    have hav : avs t.args = [x.av, y.av] := by rw [hxy]; rfl
    have n02 : (0 : Int) < ((2 : Nat) : Int) := by decide
    have n01 : (0 : Int) ≤ 1 := by decide
    have n12 : (1 : Int) < ((2 : Nat) : Int) := by decide
    refine Qe Tryz.func109 rfl Tryz.call109 Tryz.ntmps109 (congrArg Array.toList Tryz.results109) (by simp) ?_
    repeat (first | ((first | (with_reducible (first | refine Qa fun K E hK hE => ?_ | refine Qk cs ?_ | refine Qt cs ?_ | refine Qt c1 ?_ | refine Qt c2 ?_)) | (refine Qy (id := 6) [(0, 0), (1, 0), (2, 0), (3, 0), (4, 0), (5, 1), (6, 1), (7, 0), (8, 0), (9, 0), (10, 0), (11, 0), (12, 0), (13, 0), (14, 0), (15, 0), (16, 0), (17, 1), (18, 1), (19, 0), (20, 0)] mixed (by kernel_rfl) fun K hK => ?_)); simp -implicitDefEqProofs only [Qg, Qf, OpW, QI, aop, undef, AS.ev, Qu, AV.QnA, ↓reduceIte, Nat.reduceAdd, Nat.reduceLT, Nat.reduceLeDiff, Nat.reduceEqDiff, Qq, QD, QE, Qz, aBin, ti3, ti9, ti29, ei29, ti41, QV, Xc, Q7, Qo3, z0, z1, hz, n02, n12, n01, hav, hsa1, hsa2, hsa3, hsa4]) | (with_reducible (first | refine Qd fun K hK => ?_ | refine Qi ?_ | refine Qj ?_ | refine Qp ?_ | refine Qs ?_)) | ((with_reducible refine hK _ ?_); clear hK) | (refine Qh rfl ?_; simp only [↓reduceIte, Qok]))
    simp only [QC, Ql, Qr, upd, ↓reduceIte, Qom, Qoq]; first | refine Qc (htake _ _) (.keep (.v _)) ⟨by rw [ett2, binT, ← eX, ← eY]; simp only [ByteArray.append_assoc], rfl⟩ | refine Qc List.take_length (.keep (.v _)) ⟨by rw [ett2, binT, ← eX, ← eY]; simp only [ByteArray.append_assoc], rfl⟩
theorem QhO (t : T) (hn : t.nds ≤ 1000000) (hf : t.QnB = true) (ho : t.ok) : Pure Tryz.prog 109 [t.av] (.v (.string t.txt)) := QaV 1000000 (Nat.le_refl _) t hn hf ho
theorem QiN (nm : ByteArray) (hnm : nm.size ≤ 1000) (l : List T) (hn : ndsL l ≤ 1000000) (hf : XF l = true) (ho : oks l) :
    Pure Tryz.prog 110 [.v (.string nm), .sl 4 (avs l) none] (.v (.string (funT nm (txts l)))) := QbR 1000000 (QaV 1000000 (Nat.le_refl _)) (Nat.le_refl _) nm hnm l hn hf ho
end Go.Proofs.YtniljpjjnmkoaaaGreatDoor.Ab
set_option maxRecDepth 4000
namespace Go.Proofs.YtniljpjjnmkoaaaGreatDoor.Ab
open Go.Proofs
theorem QiE {l : List T} (h : (runL l 200 20).1 = true) : XF l = true := by
  rw [(ZS l 200 20 (by omega) (by omega)).1, Bool.and_eq_true] at h; exact h.1
theorem Qc8 {g : G} (h : QS g = true) : g.name.size ≤ 1000 ∧ XF g.args = true := by
  simp only [QS, Bool.and_eq_true] at h
  have := Zp h.1
  exact ⟨by omega, QiE h.2.2⟩
theorem Qcb (g : G) (hn : ndsL g.args ≤ 1000000) (ho : g.ok) : Pure Tryz.prog 63 [g.atom] (.v (.string (txtA g))) := by
  intro h
  have c1 := Zb g hn ho
  cases hr : QS g with
  | false =>
    rw [hr] at c1
    rw [txtA, hr, if_neg (by simp)]
    refine Qe Tryz.func63 rfl Tryz.call63 Tryz.ntmps63 (congrArg Array.toList Tryz.results63) (by simp) ?_
    repeat (first | ((first | (with_reducible (first | refine Qa fun K E hK hE => ?_ | refine Qm fun K E hK hE => ?_ | refine Qk c1 ?_ | refine Qt c1 ?_))); simp -implicitDefEqProofs only [Qg, Qf, OpW, QI, aop, undef, AS.ev, Qu, AV.QnA, ↓reduceIte, Nat.reduceAdd, Nat.reduceLT, Nat.reduceEqDiff, QD, QE, ti45, QR, Q0]) | (with_reducible (first | refine Qd fun K hK => ?_ | refine Qi ?_ | refine Qj ?_ | refine QP ?_ | refine QQ ?_ | refine Qn ?_ | refine QB ?_ | refine Qb ?_ | refine Qp ?_ | refine Qw ?_ | refine Qo ?_ | refine Qs ?_ | refine Qv ?_ | refine QL rfl ?_)) | (with_reducible (first | refine hK _ ?_ | (clear hK; refine hK _ ?_) | (clear hK; clear hK; refine hK _ ?_) | (clear hK; clear hK; clear hK; refine hK _ ?_)); clear hK) | (refine Qh rfl ?_; simp only [↓reduceIte]) | (intro (b : Bool); cases b))
    simp only [QC, Ql, Qr, upd, ↓reduceIte, Qom, Qoq]; first | refine Qc (htake _ _) (.keep (.v _)) ⟨rfl, rfl⟩ | refine Qc List.take_length (.keep (.v _)) ⟨rfl, rfl⟩
  | true =>
    rw [hr] at c1
    obtain ⟨hs, hf⟩ := Qc8 hr
    have c2 := QiN g.name hs g.args hn hf ho.2.2
    rw [txtA, hr, if_pos rfl]
    refine Qe Tryz.func63 rfl Tryz.call63 Tryz.ntmps63 (congrArg Array.toList Tryz.results63) (by simp) ?_
    repeat (first | ((first | (with_reducible (first | refine Qa fun K E hK hE => ?_ | refine Qm fun K E hK hE => ?_ | refine Qk c1 ?_ | refine Qt c1 ?_ | refine Qk c2 ?_ | refine Qt c2 ?_))); simp -implicitDefEqProofs only [Qg, Qf, OpW, QI, aop, undef, AS.ev, Qu, AV.QnA, ↓reduceIte, Nat.reduceAdd, Nat.reduceLT, Nat.reduceEqDiff, Qq, QD, QE, ti9, ti29, ti45, YM, YN, QR, Q0]) | (with_reducible (first | refine Qd fun K hK => ?_ | refine Qi ?_ | refine Qj ?_ | refine QP ?_ | refine QQ ?_ | refine Qn ?_ | refine QB ?_ | refine Qb ?_ | refine Qp ?_ | refine Qw ?_ | refine Qo ?_ | refine Qs ?_ | refine Qv ?_ | refine QL rfl ?_)) | (with_reducible (first | refine hK _ ?_ | (clear hK; refine hK _ ?_) | (clear hK; clear hK; refine hK _ ?_) | (clear hK; clear hK; clear hK; refine hK _ ?_)); clear hK) | (refine Qh rfl ?_; simp only [↓reduceIte, Qok]) | (intro (b : Bool); cases b))
    simp only [QC, Ql, Qr, upd, ↓reduceIte, Qom, Qoq]; first | refine Qc (htake _ _) (.keep (.v _)) ⟨rfl, rfl⟩ | refine Qc List.take_length (.keep (.v _)) ⟨rfl, rfl⟩
end Go.Proofs.YtniljpjjnmkoaaaGreatDoor.Ab
set_option maxRecDepth 4000
namespace Go.Proofs.YtniljpjjnmkoaaaGreatDoor.Ab
open Go.Proofs
def eB : ByteArray := { data := #[] }
theorem QhH (l : List T) (most : Int) (ho : oks l) (hm : 0 ≤ most) (hm2 : most ≤ 1000000) : Pure Tryz.prog 28 [.sl 4 (avs l) none, .i most] (.b (weigh 64 l most < 0)) := by
  intro h
  have hc := Qbw 64 (Nat.le_refl _) l most ho (by omega) hm2
  refine Qe Tryz.func28 rfl Tryz.call28 Tryz.ntmps28 (congrArg Array.toList Tryz.results28) (by simp) ?_
  repeat (first | ((first | (with_reducible (first | refine Qa fun K E hK hE => ?_ | refine Qk hc ?_))); simp -implicitDefEqProofs only [Qg, Qf, OpW, QI, aop, undef, AS.ev, Qu, ↓reduceIte, Nat.reduceLT, Nat.reduceEqDiff, aBin]) | (with_reducible refine Qj ?_) | ((with_reducible refine hK _ ?_); clear hK))
  simp only [QC, Ql, Qr, upd, ↓reduceIte, Qom, Qoq]; first | refine Qc (htake _ _) (.keep (.v _)) ⟨rfl, rfl⟩ | refine Qc List.take_length (.keep (.v _)) ⟨rfl, rfl⟩
theorem Qgt (i : Int) : Pure Tryz.prog 16 [.i i] (T.mk 1 i eB []).av := by
  intro h
  refine Qe Tryz.func16 rfl Tryz.call16 Tryz.ntmps16 (congrArg Array.toList Tryz.results16) (by simp) ?_
  repeat (first | (((with_reducible refine Qa fun K E hK hE => ?_)); simp -implicitDefEqProofs only [Qg, Qf, OpW, aop, undef, AS.ev, Qu, AV.QnA, ↓reduceIte, Nat.reduceAdd, Nat.reduceLT, Nat.reduceLeDiff, Nat.reduceEqDiff, QN, QJ, XS, Yb, ti41, zi41, sp41]) | (with_reducible refine Qj ?_) | ((with_reducible refine hK _ ?_); clear hK))
  simp -implicitDefEqProofs only [Qg, ↓reduceIte, Nat.reduceAdd, Nat.reduceEqDiff, ti41, QD, QE, QC, Ql, Qr, Qoq]
  refine Qc (r' := (T.mk 1 i eB []).av) (htake _ _) ?_ ⟨rfl, rfl⟩
  exact .agg rfl (Xn (.keep (.v _)) (Xn (.keep (.v _)) (Xn (.keep (.v _)) (Yz (.nil 4)))))
mutual
theorem T.QnL : ∀ t : T, t.QnB = true → t.nds = t.size
  | .mk k i n l, h => by
    simp only [T.QnB] at h
    simp only [T.nds, T.size]
    split at h
    · rename_i k0
      simp only [Bool.and_eq_true, List.isEmpty_iff] at h
      rw [if_neg (by omega), h.2]; rfl
    · split at h
      · rename_i k0 k1
        simp only [Bool.and_eq_true, List.isEmpty_iff] at h
        rw [if_neg (by omega), h.2]; rfl
      · split at h
        · rename_i k2
          split at h
          · cases h
          · split at h
            · cases h
            · rw [if_pos k2, Qfw l h]
        · cases h
theorem Qfw : ∀ l : List T, XF l = true → ndsL l = sizes l
  | [], _ => rfl
  | t :: l, h => by
    simp only [XF, Bool.and_eq_true] at h
    simp only [ndsL, sizes]
    rw [T.QnL t h.1, Qfw l h.2]
end
theorem QfX {t : T} (h : (t.run 200 20).1 = true) : t.QnB = true ∧ t.nds ≤ 200 ∧ (t.run 200 20).2 = 200 - t.size := by
  obtain ⟨h1, h2⟩ := T.QnH t 200 20
  rw [h] at h1
  have h3 := h1.symm
  simp only [Bool.and_eq_true, decide_eq_true_eq] at h3
  refine ⟨h3.1, ?_, h2 h⟩
  rw [T.QnL t h3.1]; omega
def txtT (t : T) : ByteArray := if t.QnF = true then t.txt else { data := #[] }
theorem Qi3 {h : AH} {i j p : Nat} (hi : i < h.length) (hj : j < h.length) (hij : i ≠ j) (hpi : i ≠ p) (hpj : j ≠ p) (t : T) (gp : h[p]? = some (.cells 41 4 [t.av])) (hx : t.lex)
    (hG : Xm (HB h i j true (.empty))) (u : Bool) (tx : ByteArray) (hs : tx.size + t.txt.size ≤ 140737488355328) :
    Wri 101 [.ptr i 0 0, .ptr p 0 0] h i j u tx t.txt := by
  have k1 : ∀ u tx, (HB h i j u tx)[p]? = some (.cells 41 4 [t.av]) := fun u tx => by
    rw [HB, YQ _ _ hpi hpj, gp]
  have c1 := T.QnY t hx i j hij h hi hj hG u tx hs
  rw [Wri] at c1
  refine Qe Tryz.func101 rfl Tryz.call101 Tryz.ntmps101 (congrArg Array.toList Tryz.results101) (by simp) ?_
  repeat (first | ((first | (with_reducible (first | refine Qm fun K E hK hE => ?_ | refine FunW.ret (FunW.call c1) ?_))); simp -implicitDefEqProofs only [Qg, Qf, OpW, QI, aop, undef, AS.ev, Qu, ↓reduceIte, Nat.reduceAdd, Nat.reduceLT, Nat.reduceEqDiff, QD, QE, ti41, k1]) | ((with_reducible refine hK _ ?_); clear hK))
  simp -implicitDefEqProofs only [Qoi, Qom, List.mapM_nil, Option.pure_def, Qoi, QC, Ql, Qoq]
  exact .inr ⟨rfl, rfl⟩
theorem QiF (t : T) (h : AH) (hG : Xm h) : Q9 Tryz.prog 58 [t.av] h fun o h' => o = .ret (.v (.string (txtT t))) ∧ h' = h := by
  have cr := QaH t
  cases hr : t.QnF with
  | false =>
    rw [hr] at cr
    have c1 := Qkf (.fn (.func 101) [] [.ptr h.length 0 0])
    refine Qe Tryz.func58 rfl Tryz.call58 Tryz.ntmps58 (congrArg Array.toList Tryz.results58) (by simp) ?_
    repeat (first | ((first | (with_reducible (first | refine Qa fun K E hK hE => ?_ | refine Qk cr ?_ | refine Qk c1 ?_))); simp -implicitDefEqProofs only [Qg, Qf, OpW, QI, aop, undef, AS.ev, Qu, AV.QnA, ↓reduceIte, Nat.reduceAdd, Nat.reduceLT, Nat.reduceEqDiff, QD, QE, ti41]) | (with_reducible refine Qj ?_) | ((with_reducible refine hK _ ?_); clear hK))
    simp only [QC, Ql, Qr, upd, ↓reduceIte, Qom, Qoq]; first | refine Qc (htake _ _) (.keep (.v _)) ⟨by rw [txtT, if_neg (by rw [hr]; decide)], rfl⟩ | refine Qc List.take_length (.keep (.v _)) ⟨by rw [txtT, if_neg (by rw [hr]; decide)], rfl⟩
  | true =>
    rw [hr] at cr
    obtain ⟨r1, r2, r3⟩ := QfX (t := t) hr
    obtain ⟨hx, hs0, hs1, hs2⟩ := T.QnN t 200 20 hr
    have hsz := T.QnL t r1
    have hk := Qi3 (h := h ++ [AB.cells 41 4 [t.av]] ++ [AB.dead, AB.dead]) (i := (h ++ [AB.cells 41 4 [t.av]]).length) (j := (h ++ [AB.cells 41 4 [t.av]]).length + 1) (p := h.length)
      (by simp) (by simp) (by omega) (by simp) (by simp; omega) t (by simp) hx (Qhw hG _) false .empty (by rw [show (ByteArray.empty).size = 0 from rfl]; omega)
    rw [Wri, ByteArray.empty_append] at hk
    have c1 := Qhs (.fn (.func 101) [] [.ptr h.length 0 0]) (.tup []) t.txt (h ++ [AB.cells 41 4 [t.av]]) hs1 (by omega) (FunW.fn hk)
    refine Qe Tryz.func58 rfl Tryz.call58 Tryz.ntmps58 (congrArg Array.toList Tryz.results58) (by simp) ?_
    repeat (first | ((first | (with_reducible (first | refine Qa fun K E hK hE => ?_ | refine Qk cr ?_ | refine FunW.ret (FunW.call c1) ?_))); simp -implicitDefEqProofs only [Qg, Qf, OpW, QI, aop, undef, AS.ev, Qu, AV.QnA, ↓reduceIte, Nat.reduceAdd, Nat.reduceLT, Nat.reduceEqDiff, QD, QE, ti41]) | (with_reducible refine Qj ?_) | ((with_reducible refine hK _ ?_); clear hK))
    simp only [QC, Ql, Qr, upd, ↓reduceIte, Qom, Qoq]; first | refine Qc (htake _ _) (.keep (.v _)) ⟨by rw [txtT, if_pos hr], rfl⟩ | refine Qc List.take_length (.keep (.v _)) ⟨by rw [txtT, if_pos hr], rfl⟩
theorem Qf6 (t : T) (hn : t.nds ≤ 1000000) (ho : t.ok) : Pure Tryz.prog 62 [t.av] (.v (.string (txtT t))) := by
  intro h
  have cr := Y4 t hn ho
  cases hr : (t.run 200 20).1 with
  | false =>
    rw [hr] at cr
    refine Qe Tryz.func62 rfl Tryz.call62 Tryz.ntmps62 (congrArg Array.toList Tryz.results62) (by simp) ?_
    repeat (first | ((first | (with_reducible (first | refine Qa fun K E hK hE => ?_ | refine Qk cr ?_))); simp -implicitDefEqProofs only [Qg, Qf, OpW, QI, aop, undef, AS.ev, Qu, AV.QnA, ↓reduceIte, Nat.reduceAdd, Nat.reduceLT, Nat.reduceEqDiff, QD, QE, ti41]) | (with_reducible (first | refine Qd fun K hK => ?_ | refine Qj ?_ | refine Qp ?_)) | ((with_reducible refine hK _ ?_); clear hK) | (refine Qh rfl ?_; simp only [↓reduceIte]))
    simp only [QC, Ql, Qr, upd, ↓reduceIte, Qom, Qoq]; first | refine Qc (htake _ _) (.keep (.v _)) ⟨by rw [txtT, if_neg (by rw [T.QnF, hr]; decide)], rfl⟩ | refine Qc List.take_length (.keep (.v _)) ⟨by rw [txtT, if_neg (by rw [T.QnF, hr]; decide)], rfl⟩
  | true =>
    rw [hr] at cr
    have cw := QhO t hn (QfX hr).1 ho
    refine Qe Tryz.func62 rfl Tryz.call62 Tryz.ntmps62 (congrArg Array.toList Tryz.results62) (by simp) ?_
    repeat (first | ((first | (with_reducible (first | refine Qa fun K E hK hE => ?_ | refine Qk cr ?_ | refine Qk cw ?_))); simp -implicitDefEqProofs only [Qg, Qf, OpW, QI, aop, undef, AS.ev, Qu, AV.QnA, ↓reduceIte, Nat.reduceAdd, Nat.reduceLT, Nat.reduceEqDiff, QD, QE, ti41]) | (with_reducible (first | refine Qd fun K hK => ?_ | refine Qj ?_ | refine Qn ?_ | refine Qb ?_)) | ((with_reducible refine hK _ ?_); clear hK) | (refine Qh rfl ?_; simp only [↓reduceIte, Qok]))
    simp only [QC, Ql, Qr, upd, ↓reduceIte, Qom, Qoq]; first | refine Qc (htake _ _) (.keep (.v _)) ⟨by rw [txtT, if_pos (by rw [T.QnF, hr])], rfl⟩ | refine Qc List.take_length (.keep (.v _)) ⟨by rw [txtT, if_pos (by rw [T.QnF, hr])], rfl⟩
end Go.Proofs.YtniljpjjnmkoaaaGreatDoor.Ab
set_option maxRecDepth 4000
namespace Go.Proofs.YtniljpjjnmkoaaaGreatDoor.Ab
open Go.Proofs
def strs (l : List ByteArray) : List AV := l.map fun x => .v (.string x)
theorem YS (l : List ByteArray) : (strs l).length = l.length := List.length_map _
theorem QcE (l m : List ByteArray) : strs (l ++ m) = strs l ++ strs m := List.map_append
theorem QfG : ∀ l : List ByteArray, flat (strs l) = strs l
  | [] => rfl
  | x :: l => by rw [strs, List.map_cons, Xo]; show [AV.v (.string x)] ++ flat (strs l) = _; rw [QfG l]; rfl
def XY (xs : List ByteArray) (sep : ByteArray) : ByteArray := ⟨(Lib.join (xs.map (·.data.toList)) sep.data.toList).toArray⟩
theorem Qgb (xs : List ByteArray) (sep : ByteArray) (hl : (XY xs sep).size ≤ 140737488355328) (hn : xs.length ≤ 1000000) :
    Pure Tryz.prog 60 [.sl 1 (strs xs) none, .v (.string sep)] (.v (.string (XY xs sep))) := by
  intro h
  refine ⟨Tryz.call60, fun F n c vals hF hst hh hvals => ZK hF ?_⟩
  obtain ⟨hsz, hrel⟩ := hvals
  simp only [Qot, Qou] at hsz
  obtain ⟨u, v, rfl⟩ : ∃ u v, vals = #[u, v] := by
    match vals, hsz with
    | ⟨[u, v]⟩, _ => exact ⟨u, v, rfl⟩
  have h1 := hrel 0 _ _ rfl rfl
  have h2 := hrel 1 _ _ rfl rfl
  cases h2
  have fin : ∀ (e : Ending) (w' : World), (∃ s, e = .returned (.string s) ∧ s = XY xs sep ∧ Go.RowKit.Below c.w.heap.size c.w w') → ∃ o c', (o = AOut.ret (.v (.string (XY xs sep))) ∧ c'.h = h) ∧ Ev c c' ∧ St c' ∧ c'.w = w' ∧ EndC c' o e := by
    rintro e w' ⟨s, rfl, rfl, hb⟩
    have hg := Grows.of_below hb
    exact ⟨_, c.to w', ⟨rfl, hh⟩, Ev.grows hst hg, hst.grows hg, rfl, ⟨_, rfl, .v _⟩⟩
  have hnone : ∀ (a : Option Addr) (k : Nat), xs = [] → Calls Tryz.prog 60 #[.slice a 0 k, .string sep] c.w fun e w' => ∃ o c', (o = AOut.ret (.v (.string (XY xs sep))) ∧ c'.h = h) ∧ Ev c c' ∧ St c' ∧ c'.w = w' ∧ EndC c' o e := by
    intro a k hx
    refine (Tryz.strings_Join_none a k sep c.w).mono ?_
    rintro e w' ⟨rfl, rfl⟩
    exact fin _ _ ⟨_, rfl, by subst hx; rfl, Go.RowKit.Below.refl _ _⟩
  cases h1' : xs with
  | nil =>
    rw [h1'] at h1 hnone
    cases h1 with
    | slnil => exact hnone _ _ rfl
    | slzero => exact hnone _ _ rfl
    | sl => exact hnone _ _ rfl
  | cons x0 xs0 =>
    rw [← h1']
    have hpos : 0 < xs.length := by rw [h1']; simp
    generalize hsx : strs xs = sx at h1
    cases h1 with
    | slnil => rw [h1'] at hsx; simp [strs] at hsx
    | slzero => rw [h1'] at hsx; simp [strs] at hsx
    | sl _ _ _ B o cap f hs hcap hmax hc hr ht =>
      subst hsx
      rw [QfG] at hc hr
      have hcell : ∀ (j : Nat) x, xs[j]? = some x → c.w.cell? ⟨B, o + j, none⟩ = some (.string x) := fun j x hx => by
        have hj : (strs xs)[j]? = some (.v (.string x)) := by rw [strs, List.getElem?_map, hx]; rfl
        have h3 := (hc j _ hj).1.1
        have h4 := hr j _ hj
        cases h4e : f j with
        | _ => rw [h4e] at h3 h4; cases h4 <;> exact h3
      have hB : B < c.w.heap.size := by
        have hj : (strs xs)[0]? = some (.v (.string x0)) := by rw [h1']; rfl
        exact (hc 0 _ hj).1.2.1
      rw [YS] at hcap ⊢
      refine (Tryz.strings_Join B o cap xs sep c.w hcell hB (by omega) hcap (by simpa [XY, ByteArray.size] using hl)).mono ?_
      rintro e w' ⟨rfl, hb⟩
      exact fin _ _ ⟨_, rfl, rfl, hb⟩
end Go.Proofs.YtniljpjjnmkoaaaGreatDoor.Ab
