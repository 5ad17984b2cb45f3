/-
  An abstract program logic, contracts of functions, and laws of terms and rules (part 5).
-/
import Derived.Test.YtehjodmnajgdgaaGreatDoorAbFour
import Derived.Test.YtehjodmnajgdgaaGreatDoorAbTwo
import Derived.Test.YtehjodmnajgdgaaGreatDoorAbThree
set_option linter.unusedVariables false
set_option linter.unusedSimpArgs false
set_option maxHeartbeats 4000000
set_option maxRecDepth 4000
namespace Go.Proofs.YtehjodmnajgdgaaGreatDoor.Ab
open Go.Proofs
def AQ (h : AH) (i : Nat) : Res (List T) → AOut → AH → Prop
  | .ok l r, o, h' => o = .ret (.sl 4 (avs l) none) ∧ h' = hs h i (rd r)
  | .err e, o, h' => o = .panic (Err e) ∧ ∃ r, h' = hs h i (rd r)
theorem QhU {l : List UInt8} (h : QV l = []) {k : Int} (hk : 0 ≠ k) : (nx l : Int) ≠ k := by rw [nx, h]; exact hk
theorem Qk8 {l r : List UInt8} {c : UInt8} (h : QV l = c :: r) {k : Int} (hk : ((c.toNat : Nat) : Int) ≠ k) : (nx l : Int) ≠ k := by rw [nx, h]; exact hk
theorem Qja {l r : List UInt8} {c : UInt8} (h : QV l = c :: r) : QV (c :: r) = c :: r := by rw [← h, QaJ]
theorem Qmk (h : AH) (i : Nat) (l r : List UInt8) (ts : List T) (own : Option Nat) (L : AH) : Leaves (hs h i (rd l)) (hs h i (rd r) ++ L) (.sl 4 (avs ts) own) fun v h' => AQ h i (.ok ts r) (.ret v) h' :=
  Xa (Q := fun v h' => AQ h i (.ok ts r) (.ret v) h') (Zr _ _) (.tok (QaN _ _)) ⟨rfl, rfl⟩
theorem Qle (h : AH) (i : Nat) (l r : List UInt8) (L : AH) : Leaves (hs h i (rd l)) (hs h i (rd r) ++ L) (.v (.slice none 0 0)) fun v h' => AQ h i (.ok [] r) (.ret v) h' :=
  Xa (Q := fun v h' => AQ h i (.ok [] r) (.ret v) h') (Zr _ _) (.nil 4) ⟨rfl, rfl⟩
theorem Qhv (h : AH) (i : Nat) (l r : List UInt8) (e : Int) (L : AH) : Leaves (hs h i (rd l)) (hs h i (rd r) ++ L) (Err e) fun v h' => AQ h i (.err e) (.panic v) h' :=
  Xa (Q := fun v h' => AQ h i (.err e) (.panic v) h') (Zr _ _) (.keep (Qam _ _)) ⟨rfl, _, rfl⟩
theorem Qgg {ex : List UInt8 → Res T} {N : Nat} (H : Rdr 49 ex N) (hEat : Eats 0 ex) (hN : N ≤ 1000000) (l : List UInt8) (hl : l.length < N + 1) (h : AH) (i : Nat) (hi : i < h.length) (hT : Tabs (hs h i (rd l))) :
    Xf Tryz.prog 97 [.ptr i 0 0] (hs h i (rd l)) (AQ h i (Qaw ex l)) := by
  have f1 := Xw h i
  have f2 := Qai hi
  have f4 := fun x L => Yg (h := h) (i := i) x L
  have f6 := fun x y L => X5 (h := h) (i := i) x y L
  have e0 := fun x => List.append_nil (hs h i x)
  rw [Qaw]
  cases hsk : QV l with
  | nil =>
    have ct := Qa2 hi (QhU hsk (k := 40) (by decide)) []
    rw [e0, e0, hsk] at ct
    refine Qe Tryz.func97 rfl Tryz.call97 Tryz.ntmps97 (congrArg Array.toList Tryz.results97) (by simp) ?_
    repeat (first | ((first | (with_reducible (first | refine Qa fun K E hK hE => ?_ | refine FunW.ret (FunW.call ct) ?_))); simp -implicitDefEqProofs only [Qd, Qb, Qf, OpW, QQ, aop, undef, AS.ev, Qc, Qn, XG, Qg, Qv, QmZ, Qng, ↓reduceIte, Nat.reduceLT, Nat.reduceEqDiff, QmU, Qm7, Qnb, Xp]) | (with_reducible (first | refine Qi fun K hK => ?_ | refine Qm ?_ | refine QA ?_)) | ((with_reducible refine hK _ ?_); clear hK) | (refine Qk rfl ?_; simp only [↓reduceIte]))
    simp -implicitDefEqProofs only [Qg, ↓reduceIte, QmY, QN, Qp, Qw, Qm2]
    have := Qle h i l [] []
    rw [e0] at this
    exact this
  | cons c r2 =>
    simp only
    have hlt := Xe hsk
    by_cases h40 : c.toNat = 40
    · rw [if_pos h40]
      have ct := Qdg hi hsk (k := 40) (by omega) []
      rw [e0, e0] at ct
      have hT2 := hT.rds hi r2
      cases hex : ex r2 with
      | err n =>
        have c1 := fun L => H.err (by omega) hi hT2 L hex
        refine Qe Tryz.func97 rfl Tryz.call97 Tryz.ntmps97 (congrArg Array.toList Tryz.results97) (by simp) ?_
        have c1' := c1 []
        simp only [e0] at c1'
        repeat (first | ((first | (with_reducible (first | refine Qa fun K E hK hE => ?_ | refine FunW.ret (FunW.call ct) ?_ | refine FunW.panE (FunW.call c1') fun r => ?_))); simp -implicitDefEqProofs only [Qd, Qb, Qf, OpW, QQ, aop, undef, AS.ev, Qc, Qn, XG, Qg, Qv, QmZ, Qnf, ↓reduceIte, Nat.reduceLT, Nat.reduceEqDiff, QmU, Qm7, Qnb, Xp]) | (with_reducible (first | refine Qi fun K hK => ?_ | refine QD ?_ | refine Qj ?_)) | ((with_reducible refine hK _ ?_); clear hK) | (refine Qk rfl ?_; simp only [↓reduceIte, QmW]) | (with_reducible refine hE _ _ ?_))
        have := fun r => Qhv h i l r n []
        simp only [e0] at this
        exact this _
      | ok t r =>
        have c1 := fun L => H.ok (by omega) hi hT2 L hex
        have hr := hEat r2 t r hex
        simp only
        generalize hC : ZZ ex (r.length + 1) [t] r = C
        refine Qe Tryz.func97 rfl Tryz.call97 Tryz.ntmps97 (congrArg Array.toList Tryz.results97) (by simp) ?_
        have c1' := c1 []
        rw [e0, e0] at c1'
        iterate 10 (try (first | ((first | (with_reducible (first | refine Qa fun K E hK hE => ?_ | refine FunW.ret (FunW.call ct) ?_))); simp -implicitDefEqProofs only [Qd, Qb, Qf, OpW, QQ, aop, undef, AS.ev, Qc, Qn, XG, Qg, Qv, QmZ, Qnf, ↓reduceIte, Nat.reduceLT, Nat.reduceEqDiff, QmU, Qm7, Qnb, Xp]) | (with_reducible (first | refine Qi fun K hK => ?_ | refine QD ?_ | refine Qj ?_)) | ((with_reducible refine hK _ ?_); clear hK) | (refine Qk rfl ?_; simp only [↓reduceIte, QmW])))
        (refine Qfh 2 rfl fun K E hK hE => ?_)
        simp only [Qm3, Qna, Qm1, Qm9]
        simp -implicitDefEqProofs only [Qb, Qf, OpW, aop, undef, AS.ev, Qc, Qg, Qv, QmZ, ↓reduceIte, Nat.reduceLT, Nat.reduceEqDiff, Qm7, Qnb]
        repeat ((((with_reducible refine FunW.ret (FunW.call c1') ?_)); simp -implicitDefEqProofs only [Qd, QQ, Qc, Nat.reduceLT]))
        simp only [TokW]
        simp -implicitDefEqProofs only [Qd, Qb, Qf, OpW, aop, undef, AS.ev, Qc, Qg, Qv, AV.Qmr, Qo, Qnc, Qnd, Qs, Qu, QE, QI, Qne, ↓reduceIte, Qm5, Qm6, Nat.reduceAdd, Nat.reduceLT, Nat.reduceLeDiff, Nat.reduceEqDiff, Nat.reduceMul, Qm4, Qnq, Q6, Qm7, Qnb, Qm0, rng1, Xk, Nat.reducePow, T.Qmp, ei22, zi24, f1, T.Qmp]
        refine ⟨rfl, ?_⟩
        repeat (first | (with_reducible (first | refine Qi fun K hK => ?_ | refine Qq ?_)) | ((with_reducible refine hK _ ?_); clear hK))
        obtain ⟨I, hI⟩ : ∃ I : Nat → AS → Prop, I = fun m' s => ∃ (ls : List T) (r : List UInt8), m' = r.length ∧ ls.length + r.length ≤ N + 1 ∧ r.length < N ∧ ZZ ex (r.length + 1) ls r = C ∧ s.tm 0 = .ptr i 0 0 ∧ s.tm 3 = .sl 4 (avs ls) (some h.length) ∧ s.h = hs h i (rd r) ++ [.grow 24 4 ls.length] := ⟨_, rfl⟩; refine XJ I ?_ (m := r.length) ?_
        · intro m' s hs; rw [hI] at hs; obtain ⟨tm, hp⟩ := s; dsimp only at hs; obtain ⟨ls, r, rfl, hb, hrN, hC, t0, t3, rfl⟩ := hs
          rw [ZZ] at hC
          have cy := Qad 16
          have cn := fun h => QbR 16 h
          have hT3 := hT.rds hi r
          cases hsk2 : QV r with
          | nil =>
            rw [hsk2] at hC
            simp only at hC
            subst hC
            have c44 := Qa2 hi (QhU hsk2 (k := 44) (by decide)) [.grow 24 4 ls.length]
            have c41 := Qa2 hi (l := []) (QhU (l := []) rfl (k := 41) (by decide)) [.grow 24 4 ls.length]
            rw [hsk2] at c44
            repeat (first | ((first | (with_reducible (first | refine Qa fun K E hK hE => ?_ | refine FunW.ret (FunW.call c44) ?_ | refine FunW.ret (FunW.call c41) ?_ | refine FunW.pan (FunW.call (cn _)) ?_))); simp -implicitDefEqProofs only [Qd, Qb, Qf, OpW, QQ, aop, AS.ev, Qc, Qn, Qg, ↓reduceIte, Nat.reduceLT, Nat.reduceEqDiff, Qm7, Qnb, t0]) | (with_reducible (first | refine Qi fun K hK => ?_ | refine Xb ?_ | refine Qj ?_ | refine Q5 ?_ | refine Q4 ?_)) | ((with_reducible refine hK _ ?_); clear hK) | (clear hK; (with_reducible refine hK _ ?_); clear hK) | (refine Qk rfl ?_; simp only [↓reduceIte, QmW]) | (with_reducible refine hE _ _ ?_))
            exact Qhv _ _ _ _ _ _
          | cons d r3 =>
            rw [hsk2] at hC
            simp only at hC
            have hlt2 := Xe hsk2
            have hid := Qja hsk2
            by_cases h44 : d.toNat = 44
            · rw [if_pos h44] at hC
              have c44 := Qdg hi hsk2 (k := 44) (by omega) [.grow 24 4 ls.length]
              have hT4 := hT.rds hi r3
              cases hex2 : ex r3 with
              | err n =>
                rw [hex2] at hC
                simp only at hC
                subst hC
                have c2 := H.err (by omega) hi hT4 [.grow 24 4 ls.length] hex2
                repeat (first | ((first | (with_reducible (first | refine Qa fun K E hK hE => ?_ | refine Qr fun K E hK hE => ?_ | refine FunW.ret (FunW.call c44) ?_ | refine FunW.panE (FunW.call c2) fun r => ?_))); simp -implicitDefEqProofs only [Qd, Qb, Qf, OpW, QQ, aop, AS.ev, Qc, Qn, Qg, ↓reduceIte, Nat.reduceLT, Nat.reduceEqDiff, Qm7, Qnb, t0, t3]) | (with_reducible (first | refine Qi fun K hK => ?_ | refine Qq ?_ | refine QD ?_ | refine Qj ?_)) | ((with_reducible refine hK _ ?_); clear hK) | (refine Qk rfl ?_; simp only [↓reduceIte]) | (with_reducible (first | refine hE _ _ ?_ | refine XY ?_ | refine X8 ?_)))
                exact Qhv _ _ _ _ _ _
              | ok u r4 =>
                rw [hex2] at hC
                simp only at hC
                have hr4 := hEat r3 u r4 hex2
                have hfu := Qjc hEat r4.length r.length (r4.length + 1) (ls ++ [u]) r4 (Nat.le_refl _) (by omega) (by omega)
                rw [hfu] at hC
                have c2 := H.ok (by omega) hi hT4 [.grow 24 4 ls.length] hex2
                have hm : (ls.length + 1) * 56 ≤ 140737488355328 := by omega
                have hm2 : ls.length + 1 ≤ maxLen := by simp only [maxLen]; omega
                repeat (first | ((first | (with_reducible (first | refine Qa fun K E hK hE => ?_ | refine Qr fun K E hK hE => ?_ | refine FunW.ret (FunW.call c44) ?_ | refine FunW.ret (FunW.call c2) ?_))); simp -implicitDefEqProofs only [Qd, Qb, Qf, OpW, QQ, aop, AS.ev, Qc, Qn, Qg, AV.Qmr, Qo, Qnc, Qnd, Qs, Qu, QE, QI, Qne, ↓reduceIte, Qm5, Qm6, Nat.reduceAdd, Nat.reduceLT, Nat.reduceLeDiff, Nat.reduceEqDiff, Nat.reduceMul, Qm4, Qnq, Q6, Zs, ZA, QmS, Qnm, Qm7, Qnb, Qm0, rng1, Xk, Nat.reducePow, T.Qmp, QK, ei22, ai22, zi24, t0, t3, f4, f6, hm, hm2, QK, T.Qmp]) | (with_reducible (first | refine Qi fun K hK => ?_ | refine Qq ?_ | refine QD ?_ | refine Qj ?_ | refine QF ?_)) | ((with_reducible refine hK _ ?_); clear hK) | (refine Qk rfl ?_; simp only [↓reduceIte]))
                refine Yo.mk (m' := r4.length) (by omega) ?_
                rw [hI]
                refine ⟨ls ++ [u], r4, rfl, by rw [List.length_append]; simp only [List.length_singleton]; omega, by omega, hC, t0, ?_, ?_⟩
                · rw [Qbg]; rfl
                · rw [List.length_append]; rfl
            · rw [if_neg h44] at hC
              have c44 := Qa2 hi (Qk8 hsk2 (k := 44) (by omega)) [.grow 24 4 ls.length]
              rw [hsk2] at c44
              by_cases h41 : d.toNat = 41
              · rw [if_pos h41] at hC
                subst hC
                have c41 := Qdg hi hid (k := 41) (by omega) [.grow 24 4 ls.length]
                repeat (first | ((first | (with_reducible (first | refine Qa fun K E hK hE => ?_ | refine FunW.ret (FunW.call c44) ?_ | refine FunW.ret (FunW.call c41) ?_ | refine Qz cy ?_))); simp -implicitDefEqProofs only [Qd, Qb, Qf, OpW, QQ, aop, AS.ev, Qc, Qn, Qg, ↓reduceIte, Nat.reduceLT, Nat.reduceEqDiff, Qm7, Qnb, t0, t3]) | (with_reducible (first | refine Qi fun K hK => ?_ | refine Qm ?_ | refine Xb ?_ | refine Qj ?_ | refine Q5 ?_ | refine Q4 ?_)) | ((with_reducible refine hK _ ?_); clear hK) | (clear hK; (with_reducible refine hK _ ?_); clear hK) | (refine Qk rfl ?_; simp only [↓reduceIte, QmW]))
                simp -implicitDefEqProofs only [Qg, ↓reduceIte, QmY, QN, Qp, Qw, Qm2]
                exact Qmk _ _ _ _ _ _ _
              · rw [if_neg h41] at hC
                subst hC
                have c41 := Qa2 hi (Qk8 hid (k := 41) (by omega)) [.grow 24 4 ls.length]
                rw [hid] at c41
                repeat (first | ((first | (with_reducible (first | refine Qa fun K E hK hE => ?_ | refine FunW.ret (FunW.call c44) ?_ | refine FunW.ret (FunW.call c41) ?_ | refine FunW.pan (FunW.call (cn _)) ?_))); simp -implicitDefEqProofs only [Qd, Qb, Qf, OpW, QQ, aop, AS.ev, Qc, Qn, Qg, ↓reduceIte, Nat.reduceLT, Nat.reduceEqDiff, Qm7, Qnb, t0]) | (with_reducible (first | refine Qi fun K hK => ?_ | refine Xb ?_ | refine Qj ?_ | refine Q5 ?_ | refine Q4 ?_)) | ((with_reducible refine hK _ ?_); clear hK) | (clear hK; (with_reducible refine hK _ ?_); clear hK) | (refine Qk rfl ?_; simp only [↓reduceIte, QmW]) | (with_reducible refine hE _ _ ?_))
                exact Qhv _ _ _ _ _ _
        · rw [hI]
          exact ⟨[t], r, rfl, by show 1 + r.length ≤ N + 1; omega, by omega, hC, rfl, rfl, rfl⟩
    · rw [if_neg h40]
      have ct := Qa2 hi (Qk8 hsk (k := 40) (by omega)) []
      rw [e0, e0, hsk] at ct
      refine Qe Tryz.func97 rfl Tryz.call97 Tryz.ntmps97 (congrArg Array.toList Tryz.results97) (by simp) ?_
      repeat (first | ((first | (with_reducible (first | refine Qa fun K E hK hE => ?_ | refine FunW.ret (FunW.call ct) ?_))); simp -implicitDefEqProofs only [Qd, Qb, Qf, OpW, QQ, aop, undef, AS.ev, Qc, Qn, XG, Qg, Qv, QmZ, Qng, ↓reduceIte, Nat.reduceLT, Nat.reduceEqDiff, QmU, Qm7, Qnb, Xp]) | (with_reducible (first | refine Qi fun K hK => ?_ | refine Qm ?_ | refine QA ?_)) | ((with_reducible refine hK _ ?_); clear hK) | (refine Qk rfl ?_; simp only [↓reduceIte]))
      simp -implicitDefEqProofs only [Qg, ↓reduceIte, QmY, QN, Qp, Qw, Qm2]
      have := Qle h i l (c :: r2) []
      rw [e0] at this
      exact this
end Go.Proofs.YtehjodmnajgdgaaGreatDoor.Ab
set_option maxRecDepth 4000
namespace Go.Proofs.YtehjodmnajgdgaaGreatDoor.Ab
open Go.Proofs
def Sdr (sb : ByteArray) (f : FuncId) (g : List UInt8 → RT) (N : Nat) : Prop := ∀ r : List UInt8, Suf sb r → r.length < N → ∀ (h : AH) (j : Nat), j < h.length → Xf Tryz.prog f [.ptr j 0 0] (hs h j (rr sb r 0)) (DQ sb h j (g r))
theorem Sdr.L {sb : ByteArray} {f : FuncId} {g : List UInt8 → RT} {N : Nat} (H : Sdr sb f g N) {r : List UInt8} (hr : Suf sb r) (hl : r.length < N) {h : AH} {j : Nat} (hj : j < h.length) (L : AH) :
  Xf Tryz.prog f [.ptr j 0 0] (hs h j (rr sb r 0) ++ L) fun o h' => o = .ret (g r).1.av ∧ h' = hs h j (rr sb (g r).2.1 (g r).2.2) ++ L := by
 have := H r hr hl (h ++ L) j (by rw [List.length_append]; omega)
 rw [X4 hj] at this
 exact this.mono fun o h' q => by simpa only [DQ, X4 hj] using q
theorem QdY {sb : ByteArray} (hb : sb.size ≤ 1000000) {e : Int} (he : e ≠ 0) {r : List UInt8} (hr : Suf sb r) {h : AH} {j : Nat} (hj : j < h.length) (L : AH) :
  Xf Tryz.prog 58 [.ptr j 0 0] (hs h j (rr sb r e) ++ L) fun o h' => o = .ret (.sl 4 [] none) ∧ h' = hs h j (rr sb (QV r) e) ++ L := by
 have cn := QaM hb he hr hj L
 have z1 : ((0 : Int) != 40) = true := by decide
 refine Qe Tryz.func58 rfl Tryz.call58 Tryz.ntmps58 (congrArg Array.toList Tryz.results58) (by simp) ?_
 repeat (first | ((first | (with_reducible (first | refine Qa fun K E hK hE => ?_ | refine FunW.ret (FunW.call cn) ?_))); simp -implicitDefEqProofs only [Qd, Qb, Qf, OpW, QQ, aop, undef, AS.ev, Qc, Qn, XG, Qg, Qv, QmZ, ↓reduceIte, Nat.reduceLT, Nat.reduceEqDiff, aBin, QmU, Qm7, Qnb, Q2, z1]) | (with_reducible (first | refine Qi fun K hK => ?_ | refine Qm ?_ | refine QA ?_)) | ((with_reducible refine hK _ ?_); clear hK) | (refine Qk rfl ?_; simp only [↓reduceIte]))
 simp -implicitDefEqProofs only [Qg, ↓reduceIte, QmY, QN, Qp, Qw, Qm2]
 have hlen : h.length + L.length = (hs h j (rr sb r e) ++ L).length := by rw [List.length_append, Xw]
 refine .inl ⟨(hs h j (rr sb r e) ++ L).length, _, Nat.le_refl _, ?_, .inr ?_, .nil 4, rfl, ?_⟩
 ·rw [← hlen, List.length_append, Xw]; exact Nat.le_refl _
 ·intro i b hb2
  rw [List.take_of_length_le (by rw [← hlen, List.length_append, Xw]; exact Nat.le_refl _)] at hb2
  by_cases hij : i = j
  ·subst hij
   rw [Qbd hj] at hb2
   cases hb2
   exact .inr (ZM _ _ _ _)
  ·left
   rw [← hb2]
   rcases Nat.lt_or_ge i h.length with hi | hi
   ·rw [List.getElem?_append_left (by rw [Xw]; exact hi), List.getElem?_append_left (by rw [Xw]; exact hi)]
    simp only [hs]
    rw [List.getElem?_set_ne (fun e => hij e.symm), List.getElem?_set_ne (fun e => hij e.symm)]
   ·rw [List.getElem?_append_right (by rw [Xw]; exact hi), List.getElem?_append_right (by rw [Xw]; exact hi), Xw, Xw]
 ·exact List.take_of_length_le (by rw [← hlen, List.length_append, Xw]; exact Nat.le_refl _)
theorem Qjp (sb : ByteArray) (h : AH) (j : Nat) (l r : List UInt8) (e e2 : Int) (L : AH) {Q : AV → AH → Prop} (hq : Q (.sl 4 [] none) (hs h j (rr sb r e))) : Leaves (hs h j (rr sb l e2)) (hs h j (rr sb r e) ++ L) (.v (.slice none 0 0)) Q :=
 Xa (ZM _ _ _ _) (.nil 4) hq
theorem QeA {sb : ByteArray} (hb : sb.size ≤ 1000000) {ex : List UInt8 → RT} {N : Nat} (H : Sdr sb 50 ex N) (hS : Sf ex) (hN : N ≤ 1000000) (r : List UInt8) (hr : Suf sb r) (hl : r.length < N + 1) (h : AH) (j : Nat) (hj : j < h.length) :
  Xf Tryz.prog 58 [.ptr j 0 0] (hs h j (rr sb r 0)) fun o h' => o = .ret (.sl 4 (avs (QaP ex r).1) none) ∧ h' = hs h j (rr sb (QaP ex r).2.1 (QaP ex r).2.2) := by
 have f1 := fun x => Xw h j x
 have f4 := fun x L => Yg (h := h) (i := j) x L
 have f6 := fun x y L => X5 (h := h) (i := j) x y L
 have e0 := fun x => List.append_nil (hs h j x)
 have cn := Yq hb hr hj []
 rw [e0, e0] at cn
 have hsS := hr.skip
 cases hsk : QV r with
 | nil =>
  have e1 : QaP ex r = ([], [], 0) := by rw [QaP, hsk]
  rw [show nx r = 0 by rw [nx, hsk], hsk] at cn
  have z1 : (((0 : Nat) : Int) != 40) = true := by decide
  have z2 : ((0 : Int) != 40) = true := by decide
  rw [e1]
  refine Qe Tryz.func58 rfl Tryz.call58 Tryz.ntmps58 (congrArg Array.toList Tryz.results58) (by simp) ?_
  repeat (first | ((first | (with_reducible (first | refine Qa fun K E hK hE => ?_ | refine FunW.ret (FunW.call cn) ?_))); simp -implicitDefEqProofs only [Qd, Qb, Qf, OpW, QQ, aop, undef, AS.ev, Qc, Qn, XG, Qg, Qv, QmZ, ↓reduceIte, Nat.reduceLT, Nat.reduceEqDiff, aBin, QmU, Qm7, Qnb, Q2, QnE, z2]) | (with_reducible (first | refine Qi fun K hK => ?_ | refine Qm ?_ | refine QA ?_)) | ((with_reducible refine hK _ ?_); clear hK) | (refine Qk rfl ?_; simp only [↓reduceIte]))
  simp -implicitDefEqProofs only [Qg, ↓reduceIte, QmY, QN, Qp, Qw, Qm2]
  have := Qjp sb h j r [] 0 0 [] (Q := fun v h' => AOut.ret v = AOut.ret (.sl 4 (avs []) none) ∧ h' = hs h j (rr sb [] 0)) ⟨rfl, rfl⟩
  rw [e0] at this
  exact this
 | cons c r2 =>
  rw [hsk] at hsS
  have hlt := Xe hsk
  rw [show nx r = c.toNat by rw [nx, hsk], hsk] at cn
  by_cases h40 : c.toNat = 40
  ·have z1 : (((c.toNat : Nat) : Int) != 40) = false := by simp [h40]
   have e1 : QaP ex r = Qea ex (r2.length + 1) [] r2 := by rw [QaP, hsk]; simp only; rw [if_pos h40]
   rw [e1]
   generalize hC : Qea ex (r2.length + 1) [] r2 = C
   refine Qe Tryz.func58 rfl Tryz.call58 Tryz.ntmps58 (congrArg Array.toList Tryz.results58) (by simp) ?_
   iterate 12 (try (first | ((first | (with_reducible (first | refine Qa fun K E hK hE => ?_ | refine FunW.ret (FunW.call cn) ?_))); simp -implicitDefEqProofs only [Qd, Qb, Qf, OpW, QQ, aop, undef, AS.ev, Qc, Qn, XG, Qg, Qv, QmZ, ↓reduceIte, Nat.reduceLT, Nat.reduceEqDiff, aBin, QmU, Qm7, Qnb, Q2, z1]) | (with_reducible (first | refine Qi fun K hK => ?_ | refine QD ?_ | refine Qj ?_)) | ((with_reducible refine hK _ ?_); clear hK) | (refine Qk rfl ?_; simp only [↓reduceIte, QmW])))
   refine Qhf 3 24 4 rfl ?_
   rw [f1]
   repeat (first | (with_reducible (first | refine Qi fun K hK => ?_ | refine Qq ?_)))
   obtain ⟨I, hI⟩ : ∃ I : Nat → AS → Prop, I = fun m' s => (∃ (x : UInt8) (q : List UInt8) (l : List T) (M : Nat), m' = q.length + 1 ∧ Suf sb (x :: q) ∧ q.length < M ∧ q.length < N ∧ l.length + q.length ≤ N + 1 ∧ Qea ex M l q = C ∧ s.tm 0 = .ptr j 0 0 ∧ s.tm 3 = .sl 4 (avs l) (some h.length) ∧ s.h = hs h j (rr sb (x :: q) 0) ++ [.grow 24 4 l.length]) ∨
    (∃ (q : List UInt8) (e : Int) (n : Nat), m' = 0 ∧ e ≠ 0 ∧ C = ([], q, e) ∧ s.tm 0 = .ptr j 0 0 ∧ s.h = hs h j (rr sb q e) ++ [.grow 24 4 n]) := ⟨_, rfl⟩; refine XJ I ?_ (m := r2.length + 1) ?_
   ·intro m' s hs0
    rw [hI] at hs0
    obtain ⟨tm, hp⟩ := s
    dsimp only at hs0
    rcases hs0 with ⟨x, q, l, M, rfl, hq, hM, hqN, hlq, hC, t0, t3, rfl⟩ | ⟨q, e, n, rfl, he, hC, t0, rfl⟩
    ·have hq2 := hq.tail
     have f2 := Yh hj sb
     have f3 := fun r2 e2 => Y0 hj sb (x :: q) 0 r2 e2
     have hw := Y4 hq hb
     have z0 : ((0 : Int) == 0) = true := rfl
     have cE := H.L hq2 hqN hj [.grow 24 4 l.length]
     have hm : (l.length + 1) * 56 ≤ 140737488355328 := by omega
     have hm2 : l.length + 1 ≤ maxLen := by simp only [maxLen]; omega
     have hSq := (hS q).trans hq2
     cases M with
     | zero => exact absurd hM (Nat.not_lt_zero _)
     | succ M =>
      rw [Qea] at hC
      have hlq3 := (hS q).length_le
      generalize hxx : ex q = xx at *
      obtain ⟨t, q3, e⟩ := xx
      simp only at hC hSq cE hlq3
      by_cases he : e ≠ 0
      ·rw [if_pos he] at hC
       have cn2 := QaM hb he hSq hj [.grow 24 4 (l.length + 1)]
       have cf := (Qdq (s := sb) (QV q3) he 16 j).app hj [.grow 24 4 (l.length + 1)]
       have y1 : ((0 : Int) == 41) = false := rfl
       have y2 : ((0 : Int) != 44) = true := rfl
       repeat (first | ((first | (with_reducible (first | refine Qa fun K E hK hE => ?_ | refine Qr fun K E hK hE => ?_ | refine FunW.ret (FunW.call cE) ?_ | refine FunW.ret (FunW.call cn2) ?_ | refine FunW.ret (FunW.call cf) ?_))); simp -implicitDefEqProofs only [Qd, Qb, Qf, OpW, QQ, aop, undef, AS.ev, Qc, QL, Qn, Qg, AV.Qmr, Qo, QT, QB, Q7, Qnc, Qnd, Qs, Qu, QE, QI, Qne, ↓reduceIte, Qm5, Qm6, Nat.reduceAdd, Nat.reduceLT, Nat.reduceLeDiff, Nat.reduceEqDiff, Nat.reduceMul, Qm4, Qnq, Ql, QG, QH, QW, QM, aBin, Q6, Zs, ZA, QmS, QmT, Qnm, QmU, Qm7, Qnb, Qnk, Qnj, Qm3, Qna, Qm1, Qm9, QR, Q2, XK, Qm0, QmW, rng1, Xk, Nat.reducePow, T.Qmp, QK, ti3, ei22, ai22, zi24, ti38, Xl, XI, QC, t0, t3, f2, f3, f4, f6, hw, hm, hm2, QK, T.Qmp, y1, y2]) | (with_reducible (first | refine Qi fun K hK => ?_ | refine Qq ?_ | refine QD ?_ | refine Qj ?_ | refine QF ?_)) | ((with_reducible refine hK _ ?_); clear hK) | (refine Qk rfl ?_; simp only [↓reduceIte, QmW]))
       refine Yo.mk (m' := 0) (by omega) ?_
       rw [hI]
       exact .inr ⟨QV q3, e, l.length + 1, rfl, he, hC.symm, t0, rfl⟩
      ·obtain rfl : e = 0 := by
        apply Classical.byContradiction; intro h; exact he h
       rw [if_neg he] at hC
       have cn2 := Yq hb hSq hj [.grow 24 4 (l.length + 1)]
       cases hsk3 : QV q3 with
       | nil =>
        rw [show nx q3 = 0 by rw [nx, hsk3], hsk3] at cn2
        rw [hsk3] at hC
        have cf := (Y3 (s := sb) [] 16 j).app hj [.grow 24 4 (l.length + 1)]
        have y1 : (((0 : Nat) : Int) == 41) = false := rfl
        have y2 : (((0 : Nat) : Int) != 44) = true := rfl
        have y3 : ((0 : Int) == 41) = false := rfl
        have y4 : ((0 : Int) != 44) = true := rfl
        repeat (first | ((first | (with_reducible (first | refine Qa fun K E hK hE => ?_ | refine Qr fun K E hK hE => ?_ | refine FunW.ret (FunW.call cE) ?_ | refine FunW.ret (FunW.call cn2) ?_ | refine FunW.ret (FunW.call cf) ?_))); simp -implicitDefEqProofs only [Qd, Qb, Qf, OpW, QQ, aop, undef, AS.ev, Qc, QL, Qn, Qg, AV.Qmr, Qo, QT, QB, Q7, Qnc, Qnd, Qs, Qu, QE, QI, Qne, ↓reduceIte, Qm5, Qm6, Nat.reduceAdd, Nat.reduceLT, Nat.reduceLeDiff, Nat.reduceEqDiff, Nat.reduceMul, Qm4, Qnq, Ql, QG, QH, QW, QM, aBin, Q6, Zs, ZA, QmS, QmT, Qnm, QmU, Qm7, Qnb, Qnk, Qnj, Qm3, Qna, Qm1, Qm9, QR, Q2, XK, Qm0, QnE, QmW, rng1, Xk, Nat.reducePow, T.Qmp, QK, ti3, ei22, ai22, zi24, ti38, Xl, XI, QC, t0, t3, f2, f3, f4, f6, hw, hm, hm2, QK, T.Qmp, y3, y4]) | (with_reducible (first | refine Qi fun K hK => ?_ | refine Qq ?_ | refine QD ?_ | refine Qj ?_ | refine QF ?_)) | ((with_reducible refine hK _ ?_); clear hK) | (refine Qk rfl ?_; simp only [↓reduceIte, QmW]))
        refine Yo.mk (m' := 0) (by omega) ?_
        rw [hI]
        exact .inr ⟨[], 16, l.length + 1, rfl, by decide, hC.symm, t0, rfl⟩
       | cons d r4 =>
        rw [show nx q3 = d.toNat by rw [nx, hsk3], hsk3] at cn2
        rw [hsk3] at hC
        simp only at hC
        have hs4 : Suf sb (d :: r4) := hsk3 ▸ Suf.skip (s := sb) hSq
        have hlt4 := Xe hsk3
        have f33 := fun r2 e2 => Y0 hj sb (d :: r4) 0 r2 e2
        have hw4 := Y4 hs4 hb
        by_cases h41 : d.toNat = 41
        ·rw [if_pos h41] at hC
         have y1 : (((d.toNat : Nat) : Int) == 41) = true := by simp [h41]
         repeat (first | ((first | (with_reducible (first | refine Qa fun K E hK hE => ?_ | refine FunW.ret (FunW.call cE) ?_ | refine FunW.ret (FunW.call cn2) ?_))); simp -implicitDefEqProofs only [Qd, Qb, Qf, OpW, QQ, aop, undef, AS.ev, Qc, QL, Qn, Qg, AV.Qmr, Qo, QT, QB, Q7, Qnc, Qnd, Qs, Qu, QE, QI, Qne, ↓reduceIte, Qm5, Qm6, Nat.reduceAdd, Nat.reduceLT, Nat.reduceLeDiff, Nat.reduceEqDiff, Nat.reduceMul, Qm4, Qnq, Ql, QG, QH, QW, QM, aBin, Q6, Zs, ZA, QmS, QmT, Qnm, QmU, Qm7, Qnb, Qnk, Qnj, Qm3, Qna, Qm1, Qm9, QR, XK, Qm0, QmW, rng1, Xk, Nat.reducePow, T.Qmp, QK, ti3, ei22, ai22, zi24, ti38, Xl, XI, QC, t0, t3, f2, f3, f33, f4, f6, hw, hw4, hm, hm2, QK, T.Qmp, y1]) | (with_reducible (first | refine Qi fun K hK => ?_ | refine Qq ?_ | refine Qm ?_ | refine QD ?_ | refine Qj ?_ | refine QA ?_ | refine QJ ?_)) | ((with_reducible refine hK _ ?_); clear hK) | (refine Qk rfl ?_; simp only [↓reduceIte]))
         simp -implicitDefEqProofs only [Qg, ↓reduceIte, QmY, QN, Qp, Qw, Qm2]
         rw [← hC]
         refine Xa (r := .sl 4 (avs l ++ [t.av]) (some h.length)) (r' := .sl 4 (avs (l ++ [t])) none) (ZM _ _ _ _) ?_ ⟨rfl, rfl⟩
         rw [Qbg, Qka]
         refine .tok ?_
         have := QaN h.length (l ++ [t])
         rw [Qbg, Qka] at this
         exact this
        ·rw [if_neg h41] at hC
         have y1 : (((d.toNat : Nat) : Int) == 41) = false := by simp; omega
         by_cases h44 : d.toNat = 44
         ·rw [if_pos h44] at hC
          have y2 : (((d.toNat : Nat) : Int) != 44) = false := by simp [h44]
          repeat (first | ((first | (with_reducible (first | refine Qa fun K E hK hE => ?_ | refine FunW.ret (FunW.call cE) ?_ | refine FunW.ret (FunW.call cn2) ?_))); simp -implicitDefEqProofs only [Qd, Qb, Qf, OpW, QQ, aop, undef, AS.ev, Qc, QL, Qn, Qg, AV.Qmr, Qo, QT, QB, Q7, Qnc, Qnd, Qs, Qu, QE, QI, Qne, ↓reduceIte, Qm5, Qm6, Nat.reduceAdd, Nat.reduceLT, Nat.reduceLeDiff, Nat.reduceEqDiff, Nat.reduceMul, Qm4, Qnq, Ql, QG, QH, QW, QM, aBin, Q6, Zs, ZA, QmS, QmT, Qnm, QmU, Qm7, Qnb, Qnk, Qnj, Qm3, Qna, Qm1, Qm9, QR, Q2, XK, Qm0, QmW, rng1, Xk, Nat.reducePow, T.Qmp, QK, ti3, ei22, ai22, zi24, ti38, Xl, XI, QC, t0, t3, f2, f3, f4, f6, hw, hm, hm2, QK, T.Qmp, y1, y2]) | (with_reducible (first | refine Qi fun K hK => ?_ | refine Qq ?_ | refine QD ?_ | refine Qj ?_ | refine QF ?_)) | ((with_reducible refine hK _ ?_); clear hK) | (refine Qk rfl ?_; simp only [↓reduceIte, QmW]))
          refine Yo.mk (m' := r4.length + 1) (by omega) ?_
          rw [hI]
          refine .inl ⟨d, r4, l ++ [t], M, rfl, hs4, by omega, by omega, by rw [List.length_append]; simp only [List.length_singleton]; omega, hC, t0, ?_, ?_⟩
          ·rw [Qbg]; rfl
          ·rw [List.length_append]; rfl
         ·rw [if_neg h44] at hC
          have y2 : (((d.toNat : Nat) : Int) != 44) = true := by simpa using fun e => h44 (by omega)
          have cf := (Y3 (s := sb) (d :: r4) 16 j).app hj [.grow 24 4 (l.length + 1)]
          repeat (first | ((first | (with_reducible (first | refine Qa fun K E hK hE => ?_ | refine Qr fun K E hK hE => ?_ | refine FunW.ret (FunW.call cE) ?_ | refine FunW.ret (FunW.call cn2) ?_ | refine FunW.ret (FunW.call cf) ?_))); simp -implicitDefEqProofs only [Qd, Qb, Qf, OpW, QQ, aop, undef, AS.ev, Qc, QL, Qn, Qg, AV.Qmr, Qo, QT, QB, Q7, Qnc, Qnd, Qs, Qu, QE, QI, Qne, ↓reduceIte, Qm5, Qm6, Nat.reduceAdd, Nat.reduceLT, Nat.reduceLeDiff, Nat.reduceEqDiff, Nat.reduceMul, Qm4, Qnq, Ql, QG, QH, QW, QM, aBin, Q6, Zs, ZA, QmS, QmT, Qnm, QmU, Qm7, Qnb, Qnk, Qnj, Qm3, Qna, Qm1, Qm9, QR, Q2, XK, Qm0, QmW, rng1, Xk, Nat.reducePow, T.Qmp, QK, ti3, ei22, ai22, zi24, ti38, Xl, XI, QC, t0, t3, f2, f3, f4, f6, hw, hm, hm2, QK, T.Qmp, y1, y2]) | (with_reducible (first | refine Qi fun K hK => ?_ | refine Qq ?_ | refine QD ?_ | refine Qj ?_ | refine QF ?_)) | ((with_reducible refine hK _ ?_); clear hK) | (refine Qk rfl ?_; simp only [↓reduceIte, QmW]))
          refine Yo.mk (m' := 0) (by omega) ?_
          rw [hI]
          exact .inr ⟨d :: r4, 16, l.length + 1, rfl, by decide, hC.symm, t0, rfl⟩
    ·have f2 := Yh hj sb q e
     have z0 : (e == 0) = false := by simpa using he
     repeat (first | (((with_reducible refine Qa fun K E hK hE => ?_)); simp -implicitDefEqProofs only [Qd, Qb, Qf, OpW, aop, AS.ev, Qc, Qn, XG, Qg, Qo, ↓reduceIte, Nat.reduceLT, Qm4, Ql, QG, QH, aBin, QmS, QmT, QmU, QR, ti38, XI, QC, t0, z0, f2]) | (with_reducible (first | refine Qi fun K hK => ?_ | refine Qm ?_ | refine Xb ?_ | refine Qj ?_ | refine Q5 ?_ | refine Q4 ?_)) | ((with_reducible refine hK _ ?_); clear hK) | (clear hK; (with_reducible refine hK _ ?_); clear hK) | (refine Qk rfl ?_; simp only [↓reduceIte, QmW]))
     simp -implicitDefEqProofs only [Qg, ↓reduceIte, QmY, QN, Qp, Qw, Qm2]
     rw [hC]
     exact Qjp sb h j r q e 0 _ ⟨rfl, rfl⟩
   ·rw [hI]
    exact .inl ⟨c, r2, [], r2.length + 1, rfl, hsS, by omega, by omega, by simp only [Qm6]; omega, hC, rfl, rfl, rfl⟩
  ·have z1 : (((c.toNat : Nat) : Int) != 40) = true := by simpa using fun e => h40 (by omega)
   have e1 : QaP ex r = ([], c :: r2, 0) := by rw [QaP, hsk]; simp only; rw [if_neg h40]
   rw [e1]
   refine Qe Tryz.func58 rfl Tryz.call58 Tryz.ntmps58 (congrArg Array.toList Tryz.results58) (by simp) ?_
   repeat (first | ((first | (with_reducible (first | refine Qa fun K E hK hE => ?_ | refine FunW.ret (FunW.call cn) ?_))); simp -implicitDefEqProofs only [Qd, Qb, Qf, OpW, QQ, aop, undef, AS.ev, Qc, Qn, XG, Qg, Qv, QmZ, ↓reduceIte, Nat.reduceLT, Nat.reduceEqDiff, aBin, QmU, Qm7, Qnb, Q2, z1]) | (with_reducible (first | refine Qi fun K hK => ?_ | refine Qm ?_ | refine QA ?_)) | ((with_reducible refine hK _ ?_); clear hK) | (refine Qk rfl ?_; simp only [↓reduceIte]))
   simp -implicitDefEqProofs only [Qg, ↓reduceIte, QmY, QN, Qp, Qw, Qm2]
   have := Qjp sb h j r (c :: r2) 0 0 [] (Q := fun v h' => AOut.ret v = AOut.ret (.sl 4 (avs []) none) ∧ h' = hs h j (rr sb (c :: r2) 0)) ⟨rfl, rfl⟩
   rw [e0] at this
   exact this
end Go.Proofs.YtehjodmnajgdgaaGreatDoor.Ab
set_option maxRecDepth 4000
namespace Go.Proofs.YtehjodmnajgdgaaGreatDoor.Ab
open Go.Proofs
theorem QfV {s : ByteArray} {k : Nat} (h : varV s = some k) : Qhd s k := by
  unfold varV at h
  split at h
  · split at h
    · rename_i v hd hc
      cases h
      exact ⟨hc.1, QbY hc.2⟩
    · cases h
  · cases h
theorem Qf0 {s : ByteArray} (h : varV s = none) (k : Nat) : ¬ Qhd s k := by
  rintro ⟨hk, rfl⟩
  have e : (vOf (decN k)).data.toList.drop 1 = Lib.decDigits k := by
    have : (vOf (decN k)).data.toList = 86 :: (decN k).data.toList := Qbe _ _
    rw [this]; rfl
  unfold varV at h
  rw [e, QbQ] at h
  simp only at h
  rw [if_pos ⟨hk, trivial⟩] at h
  cases h
theorem Qjm (s : ByteArray) (l : List T) : Pure Tryz.prog 96 [.v (.string s), .sl 4 (avs l) none] (T.mk 2 0 s l).av := by
  intro h
  refine Qe Tryz.func96 rfl Tryz.call96 Tryz.ntmps96 (congrArg Array.toList Tryz.results96) (by simp) ?_
  repeat (first | (((with_reducible refine Qa fun K E hK hE => ?_)); simp -implicitDefEqProofs only [Qd, Qb, Qf, OpW, aop, undef, AS.ev, Qc, QL, Qn, Qg, Qv, QmZ, Qni, AV.Qmr, Qo, QT, Xv, QB, Qnc, Qnd, Qs, Qu, QE, QI, Qne, ↓reduceIte, Qm5, Qm6, Nat.reduceAdd, Nat.reduceLT, Nat.reduceLeDiff, Nat.reduceEqDiff, Qm4, Qnq, QW, QM, Xn, XE, Q0, Ym, QmS, QmT, Qnm, QmU, Qm7, Qnb, Qnk, Qnj, Qnl, Qm3, Qna, Qm1, Qm9, ti24, zi24, sp24]) | (with_reducible refine Qm ?_) | ((with_reducible refine hK _ ?_); clear hK))
  simp -implicitDefEqProofs only [Qg, Qo, QB, ↓reduceIte, Qm5, Qm6, Nat.reduceAdd, Nat.reduceEqDiff, Qm4, Qnq, Q0, QmS, QmY, ti24, QG, QH, Q0, QN, Qp, Qw, Qm2]
  exact Qh (htake _ _) (.keep (T.Qmu _ (T.mk 2 0 s l))) ⟨rfl, rfl⟩
theorem QjQ (s : ByteArray) : (decide (Qb2 1 s) && !resB s) = Yp s := rfl
theorem Qdt {ex : List UInt8 → Res T} {N : Nat} (H : Rdr 49 ex N) (hEat : Eats 0 ex) (hN : N ≤ 1000000) (c : UInt8) (q : List UInt8) (hc : isL c = true) (hl : (c :: q).length < N + 1) (h : AH) (i : Nat) (hi : i < h.length) (hT : Tabs (hs h i (rd (c :: q)))) :
    Xf Tryz.prog 55 [.ptr i 0 0] (hs h i (rd (c :: q))) (RQ h i (Z8 ex (c :: q))) := by
  have f1 := Xw h i
  have f2 := Qai hi
  have f4 := fun x L => Yg (h := h) (i := i) x L
  have f6 := fun x y L => X5 (h := h) (i := i) x y L
  have hw : isW c = true := Qgb hc
  have hrun := fun L => Qje hi Qh0 (c :: q) (by omega) L
  have hhd : (c :: q).takeWhile isW = c :: q.takeWhile isW := by rw [List.takeWhile_cons, hw]; rfl
  have hdl : ((c :: q).dropWhile isW).length < N := by
    rw [List.dropWhile_cons, hw]
    have := Z6 isW q
    simp only [if_true, Qm5] at hl ⊢; omega
  have hix := Zp Tryz.prog 9 (by kernel_rfl) (mkB ((c :: q).takeWhile isW)) (by rw [XX, hhd]; simp)
  rw [Qci _ 0 (by rw [hhd]; simp)] at hix
  have hc0 : ((c :: q).takeWhile isW)[0]'(by rw [hhd]; simp) = c := by simp only [hhd, List.getElem_cons_zero]
  rw [hc0] at hix
  have hT2 := hT.rds hi ((c :: q).dropWhile isW)
  have cy := Qad 7
  have cn := fun h => QbR 7 h
  rw [Z8, List.headD_cons]
  generalize hs1 : (c :: q).takeWhile isW = w at *
  generalize hr1 : (c :: q).dropWhile isW = r at *
  by_cases h97 : c.toNat < 97
  · rw [if_pos h97]
    have z1 : ((c.toNat : Nat) : Int) < 97 := by omega
    cases hv : varV (mkB w) with
    | none =>
      have cN := fun L => QgQ (mkB w) (Qf0 hv) (hs h i (rd r) ++ L) (hT2.app L).1 (hT2.app L).2
      refine Qe Tryz.func55 rfl Tryz.call55 Tryz.ntmps55 (congrArg Array.toList Tryz.results55) (by simp) ?_
      repeat (first | ((first | (with_reducible (first | refine Qa fun K E hK hE => ?_ | refine FunW.ret (FunW.call (hrun _)) ?_ | refine FunW.ret (FunW.call (cN _)) ?_ | refine FunW.pan (FunW.call (cn _)) ?_))); simp -implicitDefEqProofs only [Qd, Qb, Qf, OpW, QQ, aop, undef, AS.ev, Qc, Qn, Qg, Qv, QmZ, AV.Qmr, Qo, Qnc, Qnd, Qs, Qu, QE, Qne, ↓reduceIte, Qm5, Qm6, Nat.reduceAdd, Nat.reduceLT, Nat.reduceEqDiff, Qm4, aBin, Xs, QmS, QmT, QmU, Qm7, Qnb, Q3, Qno, zi24, f1, hix, z1]) | (with_reducible refine Qi fun K hK => ?_) | ((with_reducible refine hK _ ?_); clear hK) | (refine Qk rfl ?_; simp only [↓reduceIte]) | (with_reducible (first | refine hE _ _ ?_ | refine XY ?_)))
      exact ZR _ _ _ _ _ _
    | some k =>
      have cN := fun L => Qib (mkB w) k (QfV hv) (hs h i (rd r) ++ L) (hT2.app L).1
      have cV := QiX k
      refine Qe Tryz.func55 rfl Tryz.call55 Tryz.ntmps55 (congrArg Array.toList Tryz.results55) (by simp) ?_
      repeat (first | ((first | (with_reducible (first | refine Qa fun K E hK hE => ?_ | refine FunW.ret (FunW.call (hrun _)) ?_ | refine FunW.ret (FunW.call (cN _)) ?_ | refine Qz cy ?_ | refine Qz cV ?_))); simp -implicitDefEqProofs only [Qd, Qb, Qf, OpW, QQ, aop, undef, AS.ev, Qc, QL, Qn, Qg, Qv, QmZ, AV.Qmr, Qo, QB, Qnc, Qnd, Qs, Qu, QE, QI, Qne, ↓reduceIte, Qm5, Qm6, Nat.reduceAdd, Nat.reduceLT, Nat.reduceEqDiff, Qm4, Qnq, QW, QM, aBin, Xs, QmS, QmT, Qnm, QmU, Qm7, Qnb, Q3, Qno, T.Qmp, T.Qmq, ti24, zi24, f1, f4, f6, hix, z1]) | (with_reducible (first | refine Qi fun K hK => ?_ | refine Qm ?_ | refine QA ?_)) | ((with_reducible refine hK _ ?_); clear hK) | (refine Qk rfl ?_; simp only [↓reduceIte]))
      simp -implicitDefEqProofs only [Qg, ↓reduceIte, Qm5, Qm6, Nat.reduceAdd, Nat.reduceEqDiff, Qm4, Qnq, QmS, QmY, T.Qmp, T.Qmq, ti24, QG, QH, f4, T.Qmp, T.Qmq, QN, Qp, Qw, Qm2]
      exact Qd8 _ _ _ _ _ _
  · rw [if_neg h97]
    have z1 : ¬ ((c.toNat : Nat) : Int) < 97 := by omega
    have cR := Qcu (mkB w)
    rw [QjQ] at cR
    cases hr : Yp (mkB w) with
    | false =>
      rw [hr] at cR
      rw [if_neg (by simp)]
      refine Qe Tryz.func55 rfl Tryz.call55 Tryz.ntmps55 (congrArg Array.toList Tryz.results55) (by simp) ?_
      repeat (first | ((first | (with_reducible (first | refine Qa fun K E hK hE => ?_ | refine FunW.ret (FunW.call (hrun _)) ?_ | refine Qz cR ?_ | refine FunW.pan (FunW.call (cn _)) ?_))); simp -implicitDefEqProofs only [Qd, Qb, Qf, OpW, QQ, aop, undef, AS.ev, Qc, Qn, Qg, Qv, QmZ, AV.Qmr, Qo, Qnc, Qnd, Qs, Qu, QE, Qne, ↓reduceIte, Qm5, Qm6, Nat.reduceAdd, Nat.reduceLT, Nat.reduceEqDiff, Qm4, aBin, QmU, Qm7, Qnb, Q3, Qnp, zi24, f1, hix, z1]) | (with_reducible (first | refine Qi fun K hK => ?_ | refine QD ?_ | refine Qj ?_)) | ((with_reducible refine hK _ ?_); clear hK) | (refine Qk rfl ?_; simp only [↓reduceIte, QmW]) | (with_reducible refine hE _ _ ?_))
      exact ZR _ _ _ _ _ _
    | true =>
      rw [hr] at cR
      rw [if_pos rfl]
      cases ha : Qaw ex r with
      | err n =>
        have cA : ∀ L, Xf Tryz.prog 97 [.ptr i 0 0] (hs h i (rd r) ++ L) fun o h' => o = .panic (Err n) ∧ ∃ x, h' = hs h i (rd x) ++ L := fun L => by
          have := Qgg H hEat hN r (by omega) (h ++ L) i (by rw [List.length_append]; omega) (by rw [X4 hi]; exact hT2.app L)
          rw [X4 hi, ha] at this
          exact this.mono fun o h' q => by simpa only [AQ, X4 hi] using q
        refine Qe Tryz.func55 rfl Tryz.call55 Tryz.ntmps55 (congrArg Array.toList Tryz.results55) (by simp) ?_
        repeat (first | ((first | (with_reducible (first | refine Qa fun K E hK hE => ?_ | refine FunW.ret (FunW.call (hrun _)) ?_ | refine Qz cR ?_ | refine Qz cy ?_ | refine FunW.panE (FunW.call (cA _)) fun x => ?_))); simp -implicitDefEqProofs only [Qd, Qb, Qf, OpW, QQ, aop, undef, AS.ev, Qc, Qn, Qg, Qv, QmZ, AV.Qmr, Qo, Qnc, Qnd, Qs, Qu, QE, Qne, ↓reduceIte, Qm5, Qm6, Nat.reduceAdd, Nat.reduceLT, Nat.reduceEqDiff, Qm4, aBin, QmU, Qm7, Qnb, Q3, Qnp, zi24, f1, hix, z1]) | (with_reducible (first | refine Qi fun K hK => ?_ | refine QD ?_ | refine Qj ?_)) | ((with_reducible refine hK _ ?_); clear hK) | (refine Qk rfl ?_; simp only [↓reduceIte, QmW]) | (with_reducible refine hE _ _ ?_))
        exact ZR _ _ _ _ _ _
      | ok l r2 =>
        have cA : ∀ L, Xf Tryz.prog 97 [.ptr i 0 0] (hs h i (rd r) ++ L) fun o h' => o = .ret (.sl 4 (avs l) none) ∧ h' = hs h i (rd r2) ++ L := fun L => by
          have := Qgg H hEat hN r (by omega) (h ++ L) i (by rw [List.length_append]; omega) (by rw [X4 hi]; exact hT2.app L)
          rw [X4 hi, ha] at this
          exact this.mono fun o h' q => by simpa only [AQ, X4 hi] using q
        have cF := Qjm (mkB w) l
        refine Qe Tryz.func55 rfl Tryz.call55 Tryz.ntmps55 (congrArg Array.toList Tryz.results55) (by simp) ?_
        repeat (first | ((first | (with_reducible (first | refine Qa fun K E hK hE => ?_ | refine FunW.ret (FunW.call (hrun _)) ?_ | refine Qz cR ?_ | refine Qz cy ?_ | refine Qz cF ?_ | refine FunW.ret (FunW.call (cA _)) ?_))); simp -implicitDefEqProofs only [Qd, Qb, Qf, OpW, QQ, aop, undef, AS.ev, Qc, QL, Qn, Qg, Qv, QmZ, AV.Qmr, Qo, QB, Qnc, Qnd, Qs, Qu, QE, QI, Qne, ↓reduceIte, Qm5, Qm6, Nat.reduceAdd, Nat.reduceLT, Nat.reduceEqDiff, Qm4, Qnq, QW, QM, aBin, QmS, Qnm, QmU, Qm7, Qnb, Q3, Qnp, T.Qmp, T.Qmq, ti24, zi24, f1, f4, f6, hix, z1]) | (with_reducible (first | refine Qi fun K hK => ?_ | refine Qm ?_ | refine QD ?_ | refine Qj ?_)) | ((with_reducible refine hK _ ?_); clear hK) | (refine Qk rfl ?_; simp only [↓reduceIte, QmW]))
        simp -implicitDefEqProofs only [Qg, ↓reduceIte, Qm5, Qm6, Nat.reduceAdd, Nat.reduceEqDiff, Qm4, Qnq, QmS, QmY, T.Qmp, T.Qmq, ti24, QG, QH, f4, T.Qmp, T.Qmq, QN, Qp, Qw, Qm2]
        exact Qd8 _ _ _ _ _ _
end Go.Proofs.YtehjodmnajgdgaaGreatDoor.Ab
set_option maxRecDepth 4000
namespace Go.Proofs.YtehjodmnajgdgaaGreatDoor.Ab
open Go.Proofs
theorem dq_L {sb : ByteArray} {f : FuncId} {args : List AV} {x : AB} {y : RT} {j : Nat} (H : ∀ h : AH, j < h.length → Xf Tryz.prog f args (hs h j x) (DQ sb h j y)) {h : AH} (hj : j < h.length) (L : AH) :
    Xf Tryz.prog f args (hs h j x ++ L) fun o h' => o = .ret y.1.av ∧ h' = hs h j (rr sb y.2.1 y.2.2) ++ L := by
  have := H (h ++ L) (by rw [List.length_append]; omega)
  rw [X4 hj] at this
  exact this.mono fun o h' q => by simpa only [DQ, X4 hj] using q
section
variable {sb : ByteArray} (hb : sb.size ≤ 1000000) {r : List UInt8} (hr : Suf sb r) {h : AH} {j : Nat} (hj : j < h.length)
include hb hr hj
theorem Qmd (ex : List UInt8 → RT) (hsk : QV r = []) : Xf Tryz.prog 117 [.ptr j 0 0] (hs h j (rr sb r 0)) (DQ sb h j (Zu ex r)) := by
  have f1 := fun x => Xw h j x
  have f2 := Yh hj sb
  have f3 := fun q e r2 e2 => Y0 hj sb q e r2 e2
  have f4 := fun x L => Yg (h := h) (i := j) x L
  have f5 := fun x L k => Qaa (h := h) (i := j) x L k
  have f6 := fun x y L => X5 (h := h) (i := j) x y L
  have f7 := fun x y L k => YQ (h := h) (i := j) x y L k
  have z0 : ((0 : Int) != 0) = false := rfl
  have cn := fun L => Yq hb hr hj L
  have hsS := hr.skip
  have e5 : Zu ex r = (zT, [], 16) := by rw [Zu, hsk]
  rw [show nx r = 0 by rw [nx, hsk], hsk] at cn
  rw [hsk] at hsS
  have cd := fun L => XM hb hsS hj [] 0 L
  have cd2 := cd
  have cl := fun L => YO hb hsS hj [] 0 L
  have cf := fun L => (Y3 (s := sb) [] 16 j).app hj L
  simp only [headD, Qbv] at cd cl
  have y1 : (((0 : Nat) : Int) == 45) = false := rfl
  have y2 : ((0 : Int) == 45) = false := rfl
  have y3 : ¬ (((0 : Nat) : Int) ≥ 97) := by decide
  have y4 : ¬ ((0 : Int) ≥ 97) := by decide
  have y5 : (((0 : Nat) : Int) == 40) = false := rfl
  have y6 : ((0 : Int) == 40) = false := rfl
  rw [e5]
  refine Qe Tryz.func117 rfl Tryz.call117 Tryz.ntmps117 (congrArg Array.toList Tryz.results117) (by simp) ?_
  iterate 10 (try (first | ((first | (with_reducible (first | refine Qa fun K E hK hE => ?_ | refine FunW.ret (FunW.call (cn _)) ?_))); simp -implicitDefEqProofs only [Qd, Qb, Qf, OpW, QQ, aop, undef, AS.ev, Qc, Qn, Qg, Qv, QmZ, AV.Qmr, Qo, Qnc, Qnd, Qs, Qu, QE, Qne, ↓reduceIte, Qm5, Qm6, Nat.reduceAdd, Nat.reduceLT, Nat.reduceEqDiff, Qm4, Ql, QG, QH, aBin, QmS, QmT, QmU, Qm7, Qnb, Q2, QnD, QnE, zi24, ti38, XI, QC, f1, f2]) | (with_reducible (first | refine Qi fun K hK => ?_ | refine Qq ?_)) | ((with_reducible refine hK _ ?_); clear hK) | (refine Qk rfl ?_; simp only [↓reduceIte, QmW])))
  (with_reducible refine Qa fun K E hK hE => ?_)
  (try simp only [Qnt]); refine Qy 6 (fun K1 hK1 => ?_); simp -implicitDefEqProofs only [Qb, Qf, OpW, aop, undef, AS.ev, Qc, Qg, Qv, QmZ, Qo, ↓reduceIte, Nat.reduceLT, Nat.reduceEqDiff, Qm4, Ql, QG, QH, QmS, QmT, QmU, Qm7, Qnb, Qm3, Qna, ti3, Xl, QC, f2]; (repeat ((((with_reducible refine FunW.ret (FunW.call (cd _)) ?_)); simp -implicitDefEqProofs only [Qd, QQ, Qc, Nat.reduceLT]))); refine hK1 _ ?_; clear hK1
  (try simp only [Qm1, Qm9]); refine Qy 4 (fun K1 hK1 => ?_); simp -implicitDefEqProofs only [Qd, Qb, Qf, OpW, aop, AS.ev, Qc, Qn, Qg, ↓reduceIte, Nat.reduceLT, Nat.reduceEqDiff, aBin, QmS, QmT, QmU, QmX, QmV, Qm3, Qna, QR, Qm0, y2]; refine hK1 _ ?_; clear hK1
  (try simp only [Qm1, Qm9]); refine Qy 7 (fun K1 hK1 => ?_); simp -implicitDefEqProofs only [Qd, Qb, Qf, undef, Qc, Qg, ↓reduceIte, Nat.reduceLT, Nat.reduceEqDiff, QmS, QmT, QmX, QmV, Qm3, Qna, beq_true]; (repeat ((((with_reducible refine Qa fun K E hK hE => ?_)); simp -implicitDefEqProofs only [Qd, Qb, Qf, OpW, QQ, aop, undef, ZB, Qny, Qnz, QaA, Y7, ZG, AS.ev, Qc, QL, Qn, Qt, QO, XG, ZI, XQ, X7, Xh, ZH, Qg, Qv, QmZ, Qni, AV.Qmr, Qo, QT, Xv, YN, Xj, YI, Y6, Za, YA, QB, Q7, Yz, YK, Yu, YL, Zb, Y8, YE, Qnc, Qnd, Qs, Yk, Qu, QE, YG, XH, XL, XD, QI, YD, Xq, YB, Y5, Y9, YC, Qne, QnB, QnC, Qnf, Qng, ↓reduceIte, Qm5, Qm6, Nat.reduceAdd, Nat.reduceLT, Nat.reduceLeDiff, Nat.reduceEqDiff, Nat.reduceSub, Nat.reduceMul, Qm4, Qnh, Qnr, Qns, Qnq, Xz, XT, Ql, QG, QH, QW, QM, aBin, Xs, Xn, XE, Q0, hget, Ym, hset, hlen, happ, QmS, QmT, QnI, Qnm, Qnn, QmU, Qnx, QmX, Qnw, QmY, Qnt, QmV, Qm7, Qnb, Qnk, Qnj, Qnl, Qm3, Qna, Qm1, Qm9, QR, Q2, Q9, Xi, XK, Xp, QY, Yw, goInt, Qno, Qnp, Qm0, QnD, Qnv, Int.toNat_zero, Int.toNat_one, Qnu, QnG, QnH, QnE, QmW, QnA, beq_true, beq_false, rng0, rng1, rng2, rng3, rng4, rng5, rng6, rng7, rng8, Xk, Nat.reducePow, Nat.zero_le, Nat.zero_mul, T.Qmp, T.Qmq, QK, X6, ti0, zi0, ti3, zi3, un3, ti4, zi4, un4, ti5, zi5, un5, ti9, ei9, zi9, un9, ti22, ei22, ai22, zi22, un22, ti24, Xu, XF, XA, Xx, zi24, sp24, ti38, zi38, un38, ti78, zi78, un78, ti80, Xm, Xl, XI, zi80, sp80, QcY, QnF, Int.sub_zero, QaG, QC, f1, f2, f4, f6, z0, y1, y2]))); refine hK1 _ ?_; clear hK1
  (try simp only [Qm1, Qm9])
  simp -implicitDefEqProofs only [Qd, Qb, Qf, OpW, aop, AS.ev, Qc, Qt, Qg, ↓reduceIte, Nat.reduceLT, Nat.reduceEqDiff, QmS, QmT, QmX, QmV, Qm0, QmW]
  repeat (first | ((first | (with_reducible (first | refine Qa fun K E hK hE => ?_ | refine FunW.ret (FunW.call (cl _)) ?_ | refine FunW.ret (FunW.call (cf _)) ?_))); simp -implicitDefEqProofs only [Qd, Qb, Qf, OpW, QQ, aop, undef, AS.ev, Qc, QL, Qn, Qt, Qg, Qv, QmZ, AV.Qmr, Qo, QB, Qnc, Qnd, Qs, Qu, QI, Qne, ↓reduceIte, Qm5, Qm6, Nat.reduceAdd, Nat.reduceLT, Nat.reduceEqDiff, Qm4, Qnq, Ql, QG, QH, QW, QM, aBin, QmS, QmT, Qnm, QmU, QmX, QmV, Qm7, Qnb, QR, Xi, Qnp, QmW, beq_true, T.Qmp, T.Qmq, ti3, ti24, Xl, QC, f2, f4, f6, y4, y6]) | (with_reducible (first | refine Qm ?_ | refine QD ?_ | refine Qj ?_ | refine QF ?_)) | ((with_reducible refine hK _ ?_); clear hK) | (refine Qk rfl ?_; simp only [↓reduceIte, QmW]))
  simp -implicitDefEqProofs only [Qg, ↓reduceIte, Qm5, Qm6, Nat.reduceAdd, Nat.reduceEqDiff, Qm4, Qnq, QG, QH, QmS, QmY, T.Qmp, T.Qmq, ti24, QG, QH, f4, T.Qmp, T.Qmq, QN, Qp, Qw, Qm2]
  exact Zo
variable {c : UInt8} {r2 : List UInt8} (hsk : QV r = c :: r2)
include hsk
theorem Qme (ex : List UInt8 → RT) (h1 : isD c = true) : Xf Tryz.prog 117 [.ptr j 0 0] (hs h j (rr sb r 0)) (DQ sb h j (Zu ex r)) := by
  have f1 := fun x => Xw h j x
  have f2 := Yh hj sb
  have f3 := fun q e r2 e2 => Y0 hj sb q e r2 e2
  have f4 := fun x L => Yg (h := h) (i := j) x L
  have f5 := fun x L k => Qaa (h := h) (i := j) x L k
  have f6 := fun x y L => X5 (h := h) (i := j) x y L
  have f7 := fun x y L k => YQ (h := h) (i := j) x y L k
  have z0 : ((0 : Int) != 0) = false := rfl
  have cn := fun L => Yq hb hr hj L
  have hsS := hr.skip
  rw [show nx r = c.toNat by rw [nx, hsk], hsk] at cn
  rw [hsk] at hsS
  have hlt := Xe hsk
  have hs2 := hsS.tail
  have hw := Y4 hsS hb
  have cd := fun L => XM hb hsS hj (c :: r2) 0 L
  have cd2 := fun L => XM hb hs2 hj (c :: r2) 0 L
  have cl := fun L => YO hb hsS hj (c :: r2) 0 L
  simp only [headD, Qbv] at cd cl
  have e5 : Zu ex r = rInt 1 (c :: r2) := by rw [Zu, hsk]; simp only; rw [if_pos h1]
  rw [h1] at cd
  have cI := fun L => dq_L (fun h hj => QfW hb false c r2 h1 hsS hj) hj L
  simp only [QmW, if_false] at cI
  rw [e5]
  generalize rInt 1 (c :: r2) = X at *
  obtain ⟨X1, X2, X3⟩ := X
  refine Qe Tryz.func117 rfl Tryz.call117 Tryz.ntmps117 (congrArg Array.toList Tryz.results117) (by simp) ?_
  iterate 10 (try (first | ((first | (with_reducible (first | refine Qa fun K E hK hE => ?_ | refine FunW.ret (FunW.call (cn _)) ?_))); simp -implicitDefEqProofs only [Qd, Qb, Qf, OpW, QQ, aop, undef, AS.ev, Qc, Qn, Qg, Qv, QmZ, AV.Qmr, Qo, Qnc, Qnd, Qs, Qu, QE, Qne, ↓reduceIte, Qm5, Qm6, Nat.reduceAdd, Nat.reduceLT, Nat.reduceEqDiff, Qm4, Ql, QG, QH, aBin, QmS, QmT, QmU, Qm7, Qnb, Q2, QnD, zi24, ti38, XI, QC, f1, f2]) | (with_reducible (first | refine Qi fun K hK => ?_ | refine Qq ?_)) | ((with_reducible refine hK _ ?_); clear hK) | (refine Qk rfl ?_; simp only [↓reduceIte, QmW])))
  (with_reducible refine Qa fun K E hK hE => ?_)
  (try simp only [Qnt]); refine Qy 6 (fun K1 hK1 => ?_); simp -implicitDefEqProofs only [Qb, Qf, OpW, aop, undef, AS.ev, Qc, Qg, Qv, QmZ, Qo, ↓reduceIte, Nat.reduceLT, Nat.reduceEqDiff, Qm4, Ql, QG, QH, QmS, QmT, QmU, Qm7, Qnb, Qm3, Qna, ti3, Xl, QC, f2]; (repeat ((((with_reducible refine FunW.ret (FunW.call (cd _)) ?_)); simp -implicitDefEqProofs only [Qd, QQ, Qc, Nat.reduceLT]))); refine hK1 _ ?_; clear hK1
  (try simp only [Qm1, Qm9]); refine Qy 4 (fun K1 hK1 => ?_); simp -implicitDefEqProofs only [Qd, Qb, Qf, OpW, aop, undef, AS.ev, Qc, Qg, Qnf, ↓reduceIte, Nat.reduceLT, Nat.reduceEqDiff, QmS, QmT, QmX, QmV, Qm3, Qna, beq_false]; refine hK1 _ ?_; clear hK1
  (try simp only [Qm1, Qm9]); refine Qy 7 (fun K1 hK1 => ?_); simp -implicitDefEqProofs only [Qd, Qb, Qf, undef, Qc, Qg, ↓reduceIte, Nat.reduceLT, Nat.reduceEqDiff, QmS, QmT, QmX, QmV, Qm3, Qna]; (repeat ((((with_reducible refine Qa fun K E hK hE => ?_)); simp -implicitDefEqProofs only [Qd, Qb, Qf, OpW, QQ, aop, undef, ZB, Qny, Qnz, QaA, Y7, ZG, AS.ev, Qc, QL, Qn, Qt, QO, XG, ZI, XQ, X7, Xh, ZH, Qg, Qv, QmZ, Qni, AV.Qmr, Qo, QT, Xv, YN, Xj, YI, Y6, Za, YA, QB, Q7, Yz, YK, Yu, YL, Zb, Y8, YE, Qnc, Qnd, Qs, Yk, Qu, QE, YG, XH, XL, XD, QI, YD, Xq, YB, Y5, Y9, YC, Qne, QnB, QnC, Qnf, Qng, ↓reduceIte, Qm5, Qm6, Nat.reduceAdd, Nat.reduceLT, Nat.reduceLeDiff, Nat.reduceEqDiff, Nat.reduceSub, Nat.reduceMul, Qm4, Qnh, Qnr, Qns, Qnq, Xz, XT, Ql, QG, QH, QW, QM, aBin, Xs, Xn, XE, Q0, hget, Ym, hset, hlen, happ, QmS, QmT, QnI, Qnm, Qnn, QmU, Qnx, QmX, Qnw, QmY, Qnt, QmV, Qm7, Qnb, Qnk, Qnj, Qnl, Qm3, Qna, Qm1, Qm9, QR, Q2, Q9, Xi, XK, Xp, QY, Yw, goInt, Qno, Qnp, Qm0, QnD, Qnv, Int.toNat_zero, Int.toNat_one, Qnu, QnG, QnH, QnE, QmW, QnA, beq_true, beq_false, rng0, rng1, rng2, rng3, rng4, rng5, rng6, rng7, rng8, Xk, Nat.reducePow, Nat.zero_le, Nat.zero_mul, T.Qmp, T.Qmq, QK, X6, ti0, zi0, ti3, zi3, un3, ti4, zi4, un4, ti5, zi5, un5, ti9, ei9, zi9, un9, ti22, ei22, ai22, zi22, un22, ti24, Xu, XF, XA, Xx, zi24, sp24, ti38, zi38, un38, ti78, zi78, un78, ti80, Xm, Xl, XI, zi80, sp80, QcY, QnF, Int.sub_zero, QaG, QC, f1, f2, f4, f6, z0]))); refine hK1 _ ?_; clear hK1
  (try simp only [Qm1, Qm9])
  simp -implicitDefEqProofs only [Qd, Qb, Qf, OpW, aop, undef, AS.ev, Qc, Qt, Qg, Qnf, ↓reduceIte, Nat.reduceLT, Nat.reduceEqDiff, QmS, QmT, QmX, QmV, beq_false]
  repeat (first | ((first | (with_reducible (first | refine Qa fun K E hK hE => ?_ | refine FunW.ret (FunW.call (cI _)) ?_))); simp -implicitDefEqProofs only [Qd, Qb, Qf, OpW, QQ, aop, undef, AS.ev, Qc, QL, Qg, Qv, QmZ, AV.Qmr, Qo, QB, Qnc, Qnd, Qs, Qu, QI, Qne, ↓reduceIte, Qm5, Qm6, Nat.reduceAdd, Nat.reduceLT, Nat.reduceEqDiff, Qm4, Qnq, QW, QM, QmS, Qnm, QmU, Qm7, Qnb, T.Qmp, T.Qmq, ti24, f4, f6]) | (with_reducible (first | refine Qm ?_ | refine QA ?_ | refine QJ ?_)) | ((with_reducible refine hK _ ?_); clear hK) | (refine Qk rfl ?_; simp only [↓reduceIte]))
  simp -implicitDefEqProofs only [Qg, ↓reduceIte, Qm5, Qm6, Nat.reduceAdd, Nat.reduceEqDiff, Qm4, Qnq, QG, QH, QmS, QmY, T.Qmp, T.Qmq, ti24, QG, QH, f4, T.Qmp, T.Qmq, QN, Qp, Qw, Qm2]
  exact Zo
theorem QlR (ex : List UInt8 → RT) (h1 : isD c = false) (h2 : c.toNat = 45 ∧ headD r2 = true) : Xf Tryz.prog 117 [.ptr j 0 0] (hs h j (rr sb r 0)) (DQ sb h j (Zu ex r)) := by
  have f1 := fun x => Xw h j x
  have f2 := Yh hj sb
  have f3 := fun q e r2 e2 => Y0 hj sb q e r2 e2
  have f4 := fun x L => Yg (h := h) (i := j) x L
  have f5 := fun x L k => Qaa (h := h) (i := j) x L k
  have f6 := fun x y L => X5 (h := h) (i := j) x y L
  have f7 := fun x y L k => YQ (h := h) (i := j) x y L k
  have z0 : ((0 : Int) != 0) = false := rfl
  have cn := fun L => Yq hb hr hj L
  have hsS := hr.skip
  rw [show nx r = c.toNat by rw [nx, hsk], hsk] at cn
  rw [hsk] at hsS
  have hlt := Xe hsk
  have hs2 := hsS.tail
  have hw := Y4 hsS hb
  have cd := fun L => XM hb hsS hj (c :: r2) 0 L
  have cd2 := fun L => XM hb hs2 hj (c :: r2) 0 L
  have cl := fun L => YO hb hsS hj (c :: r2) 0 L
  simp only [headD, Qbv] at cd cl
  have e5 : Zu ex r = rInt (-1) r2 := by rw [Zu, hsk]; simp only; rw [if_neg (by rw [h1]; decide), if_pos h2]
  rw [h1] at cd
  have y1 : (((c.toNat : Nat) : Int) == 45) = true := by simp [h2.1]
  rw [h2.2] at cd2
  have ec : c = 45 := UInt8.toNat_inj.1 h2.1
  cases r2 with
  | nil => exact absurd h2.2 (by simp [headD])
  | cons d r3 =>
  have cI := fun L => dq_L (fun h hj => QfW hb true d r3 h2.2 (by rw [if_pos rfl, ← ec]; exact hsS) hj) hj L
  simp only [if_true, ← ec] at cI
  rw [e5]
  generalize rInt (-1) (d :: r3) = X at *
  obtain ⟨X1, X2, X3⟩ := X
  refine Qe Tryz.func117 rfl Tryz.call117 Tryz.ntmps117 (congrArg Array.toList Tryz.results117) (by simp) ?_
  iterate 10 (try (first | ((first | (with_reducible (first | refine Qa fun K E hK hE => ?_ | refine FunW.ret (FunW.call (cn _)) ?_))); simp -implicitDefEqProofs only [Qd, Qb, Qf, OpW, QQ, aop, undef, AS.ev, Qc, Qn, Qg, Qv, QmZ, AV.Qmr, Qo, Qnc, Qnd, Qs, Qu, QE, Qne, ↓reduceIte, Qm5, Qm6, Nat.reduceAdd, Nat.reduceLT, Nat.reduceEqDiff, Qm4, Ql, QG, QH, aBin, QmS, QmT, QmU, Qm7, Qnb, Q2, QnD, zi24, ti38, XI, QC, f1, f2]) | (with_reducible (first | refine Qi fun K hK => ?_ | refine Qq ?_)) | ((with_reducible refine hK _ ?_); clear hK) | (refine Qk rfl ?_; simp only [↓reduceIte, QmW])))
  (with_reducible refine Qa fun K E hK hE => ?_)
  (try simp only [Qnt]); refine Qy 6 (fun K1 hK1 => ?_); simp -implicitDefEqProofs only [Qb, Qf, OpW, aop, undef, AS.ev, Qc, Qg, Qv, QmZ, Qo, ↓reduceIte, Nat.reduceLT, Nat.reduceEqDiff, Qm4, Ql, QG, QH, QmS, QmT, QmU, Qm7, Qnb, Qm3, Qna, ti3, Xl, QC, f2]; (repeat ((((with_reducible refine FunW.ret (FunW.call (cd _)) ?_)); simp -implicitDefEqProofs only [Qd, QQ, Qc, Nat.reduceLT]))); refine hK1 _ ?_; clear hK1
  (try simp only [Qm1, Qm9]); refine Qy 4 (fun K1 hK1 => ?_); simp -implicitDefEqProofs only [Qd, Qb, Qf, OpW, aop, AS.ev, Qc, Qn, Qg, ↓reduceIte, Nat.reduceLT, Nat.reduceEqDiff, aBin, QmS, QmT, QmU, QmX, QmV, Qm3, Qna, QR, Qm0, y1]; refine hK1 _ ?_; clear hK1
  (try simp only [Qm1, Qm9]); refine Qy 7 (fun K1 hK1 => ?_); simp -implicitDefEqProofs only [Qb, Qf, OpW, aop, undef, AS.ev, Qc, Qn, Qg, Qv, QmZ, Qo, ↓reduceIte, Nat.reduceLT, Nat.reduceEqDiff, Qm4, Ql, QG, QH, aBin, QmS, QmT, QmU, QmX, QmV, Qm7, Qnb, Qm3, Qna, XK, Qm0, ti3, Xl, QC, f2, hw]; (repeat ((((with_reducible refine FunW.ret (FunW.call (cd2 _)) ?_)); simp -implicitDefEqProofs only [Qd, QQ, Qc, Nat.reduceLT]))); refine hK1 _ ?_; clear hK1
  (try simp only [Qm1, Qm9])
  simp -implicitDefEqProofs only [Qd, Qb, Qf, OpW, aop, AS.ev, Qc, Qg, ↓reduceIte, Nat.reduceLT, Nat.reduceEqDiff, QmS, QmT, QmX, QmV, Qm0, QmW]
  repeat (first | ((first | (with_reducible (first | refine Qa fun K E hK hE => ?_ | refine FunW.ret (FunW.call (cI _)) ?_))); simp -implicitDefEqProofs only [Qd, Qb, Qf, OpW, QQ, aop, undef, AS.ev, Qc, QL, Qg, Qv, QmZ, AV.Qmr, Qo, QB, Qnc, Qnd, Qs, Qu, QI, Qne, ↓reduceIte, Qm5, Qm6, Nat.reduceAdd, Nat.reduceLT, Nat.reduceEqDiff, Qm4, Qnq, QW, QM, QmS, Qnm, QmU, Qm7, Qnb, T.Qmp, T.Qmq, ti24, f4, f6]) | (with_reducible (first | refine Qm ?_ | refine QA ?_ | refine QJ ?_)) | ((with_reducible refine hK _ ?_); clear hK) | (refine Qk rfl ?_; simp only [↓reduceIte]))
  simp -implicitDefEqProofs only [Qg, ↓reduceIte, Qm5, Qm6, Nat.reduceAdd, Nat.reduceEqDiff, Qm4, Qnq, QG, QH, QmS, QmY, T.Qmp, T.Qmq, ti24, QG, QH, f4, T.Qmp, T.Qmq, QN, Qp, Qw, Qm2]
  exact Zo
theorem QlU (ex : List UInt8 → RT) (h1 : isD c = false) (h2 : ¬ (c.toNat = 45 ∧ headD r2 = true)) (h3 : ¬ (97 ≤ c.toNat ∧ c.toNat ≤ 122)) (h4 : isL c = false) (h5 : c.toNat ≠ 40) : Xf Tryz.prog 117 [.ptr j 0 0] (hs h j (rr sb r 0)) (DQ sb h j (Zu ex r)) := by
  have f1 := fun x => Xw h j x
  have f2 := Yh hj sb
  have f3 := fun q e r2 e2 => Y0 hj sb q e r2 e2
  have f4 := fun x L => Yg (h := h) (i := j) x L
  have f5 := fun x L k => Qaa (h := h) (i := j) x L k
  have f6 := fun x y L => X5 (h := h) (i := j) x y L
  have f7 := fun x y L k => YQ (h := h) (i := j) x y L k
  have z0 : ((0 : Int) != 0) = false := rfl
  have cn := fun L => Yq hb hr hj L
  have hsS := hr.skip
  rw [show nx r = c.toNat by rw [nx, hsk], hsk] at cn
  rw [hsk] at hsS
  have hlt := Xe hsk
  have hs2 := hsS.tail
  have hw := Y4 hsS hb
  have cd := fun L => XM hb hsS hj (c :: r2) 0 L
  have cd2 := fun L => XM hb hs2 hj (c :: r2) 0 L
  have cl := fun L => YO hb hsS hj (c :: r2) 0 L
  simp only [headD, Qbv] at cd cl
  rw [h1] at cd
  have y1 : (((c.toNat : Nat) : Int) == 45) = true → headD r2 = false := fun e => by
    cases h : headD r2 with
    | true => exact absurd ⟨by have := beq_iff_eq.1 e; omega, h⟩ h2
    | false => rfl
  have e5 : Zu ex r = (zT, c :: r2, 16) := by rw [Zu, hsk]; simp only; rw [if_neg (by rw [h1]; decide), if_neg h2, if_neg h3, if_neg (by rw [h4]; decide), if_neg h5]
  rw [h4] at cl
  have cf := fun L => (Y3 (s := sb) (c :: r2) 16 j).app hj L
  have y5 : (((c.toNat : Nat) : Int) == 40) = false := by simp; omega
  rw [e5]
  by_cases y3 : ((c.toNat : Nat) : Int) ≥ 97
  · have y4 : ¬ ((c.toNat : Nat) : Int) ≤ 122 := by omega
    have y2 : (((c.toNat : Nat) : Int) == 45) = false := by simp; omega
    refine Qe Tryz.func117 rfl Tryz.call117 Tryz.ntmps117 (congrArg Array.toList Tryz.results117) (by simp) ?_
    iterate 10 (try (first | ((first | (with_reducible (first | refine Qa fun K E hK hE => ?_ | refine FunW.ret (FunW.call (cn _)) ?_))); simp -implicitDefEqProofs only [Qd, Qb, Qf, OpW, QQ, aop, undef, AS.ev, Qc, Qn, Qg, Qv, QmZ, AV.Qmr, Qo, Qnc, Qnd, Qs, Qu, QE, Qne, ↓reduceIte, Qm5, Qm6, Nat.reduceAdd, Nat.reduceLT, Nat.reduceEqDiff, Qm4, Ql, QG, QH, aBin, QmS, QmT, QmU, Qm7, Qnb, Q2, QnD, zi24, ti38, XI, QC, f1, f2]) | (with_reducible (first | refine Qi fun K hK => ?_ | refine Qq ?_)) | ((with_reducible refine hK _ ?_); clear hK) | (refine Qk rfl ?_; simp only [↓reduceIte, QmW])))
    (with_reducible refine Qa fun K E hK hE => ?_)
    (try simp only [Qnt]); refine Qy 6 (fun K1 hK1 => ?_); simp -implicitDefEqProofs only [Qb, Qf, OpW, aop, undef, AS.ev, Qc, Qg, Qv, QmZ, Qo, ↓reduceIte, Nat.reduceLT, Nat.reduceEqDiff, Qm4, Ql, QG, QH, QmS, QmT, QmU, Qm7, Qnb, Qm3, Qna, ti3, Xl, QC, f2]; (repeat ((((with_reducible refine FunW.ret (FunW.call (cd _)) ?_)); simp -implicitDefEqProofs only [Qd, QQ, Qc, Nat.reduceLT]))); refine hK1 _ ?_; clear hK1
    (try simp only [Qm1, Qm9]); refine Qy 4 (fun K1 hK1 => ?_); simp -implicitDefEqProofs only [Qd, Qb, Qf, OpW, aop, AS.ev, Qc, Qn, Qg, ↓reduceIte, Nat.reduceLT, Nat.reduceEqDiff, aBin, QmS, QmT, QmU, QmX, QmV, Qm3, Qna, QR, Qm0, y2]; refine hK1 _ ?_; clear hK1
    (try simp only [Qm1, Qm9]); refine Qy 7 (fun K1 hK1 => ?_); simp -implicitDefEqProofs only [Qd, Qb, Qf, undef, Qc, Qg, ↓reduceIte, Nat.reduceLT, Nat.reduceEqDiff, QmS, QmT, QmX, QmV, Qm3, Qna, beq_true]; (repeat ((((with_reducible refine Qa fun K E hK hE => ?_)); simp -implicitDefEqProofs only [Qd, Qb, Qf, OpW, QQ, aop, undef, ZB, Qny, Qnz, QaA, Y7, ZG, AS.ev, Qc, QL, Qn, Qt, QO, XG, ZI, XQ, X7, Xh, ZH, Qg, Qv, QmZ, Qni, AV.Qmr, Qo, QT, Xv, YN, Xj, YI, Y6, Za, YA, QB, Q7, Yz, YK, Yu, YL, Zb, Y8, YE, Qnc, Qnd, Qs, Yk, Qu, QE, YG, XH, XL, XD, QI, YD, Xq, YB, Y5, Y9, YC, Qne, QnB, QnC, Qnf, Qng, ↓reduceIte, Qm5, Qm6, Nat.reduceAdd, Nat.reduceLT, Nat.reduceLeDiff, Nat.reduceEqDiff, Nat.reduceSub, Nat.reduceMul, Qm4, Qnh, Qnr, Qns, Qnq, Xz, XT, Ql, QG, QH, QW, QM, aBin, Xs, Xn, XE, Q0, hget, Ym, hset, hlen, happ, QmS, QmT, QnI, Qnm, Qnn, QmU, Qnx, QmX, Qnw, QmY, Qnt, QmV, Qm7, Qnb, Qnk, Qnj, Qnl, Qm3, Qna, Qm1, Qm9, QR, Q2, Q9, Xi, XK, Xp, QY, Yw, goInt, Qno, Qnp, Qm0, QnD, Qnv, Int.toNat_zero, Int.toNat_one, Qnu, QnG, QnH, QnE, QmW, QnA, beq_true, beq_false, rng0, rng1, rng2, rng3, rng4, rng5, rng6, rng7, rng8, Xk, Nat.reducePow, Nat.zero_le, Nat.zero_mul, T.Qmp, T.Qmq, QK, X6, ti0, zi0, ti3, zi3, un3, ti4, zi4, un4, ti5, zi5, un5, ti9, ei9, zi9, un9, ti22, ei22, ai22, zi22, un22, ti24, Xu, XF, XA, Xx, zi24, sp24, ti38, zi38, un38, ti78, zi78, un78, ti80, Xm, Xl, XI, zi80, sp80, QcY, QnF, Int.sub_zero, QaG, QC, f1, f2, f4, f6, z0, y2]))); refine hK1 _ ?_; clear hK1
    (try simp only [Qm1, Qm9])
    simp -implicitDefEqProofs only [Qd, Qb, Qf, OpW, aop, AS.ev, Qc, Qt, Qg, ↓reduceIte, Nat.reduceLT, Nat.reduceEqDiff, QmS, QmT, QmX, QmV, Qm0, QmW]
    repeat (first | ((first | (with_reducible (first | refine Qa fun K E hK hE => ?_ | refine FunW.ret (FunW.call (cl _)) ?_ | refine FunW.ret (FunW.call (cf _)) ?_))); simp -implicitDefEqProofs only [Qd, Qb, Qf, OpW, QQ, aop, undef, AS.ev, Qc, QL, Qn, Qg, Qv, QmZ, AV.Qmr, Qo, QB, Qnc, Qnd, Qs, Qu, QI, Qne, ↓reduceIte, Qm5, Qm6, Nat.reduceAdd, Nat.reduceLT, Nat.reduceEqDiff, Qm4, Qnq, Ql, QG, QH, QW, QM, aBin, QmS, QmT, Qnm, QmU, QmX, QmV, Qm7, Qnb, QR, Q9, Xi, Qno, Qnp, Qm0, T.Qmp, T.Qmq, ti3, ti24, Xl, QC, f2, f4, f6, y3, y4, y5]) | (with_reducible (first | refine Qm ?_ | refine QD ?_ | refine Qj ?_ | refine QF ?_)) | ((with_reducible refine hK _ ?_); clear hK) | (refine Qk rfl ?_; simp only [↓reduceIte, QmW]))
    simp -implicitDefEqProofs only [Qg, ↓reduceIte, Qm5, Qm6, Nat.reduceAdd, Nat.reduceEqDiff, Qm4, Qnq, QG, QH, QmS, QmY, T.Qmp, T.Qmq, ti24, QG, QH, f4, T.Qmp, T.Qmq, QN, Qp, Qw, Qm2]
    exact Zo
  ·   skip
      cases y2 : (((c.toNat : Nat) : Int) == 45) with
      | true =>
      rw [y1 y2] at cd2
      refine Qe Tryz.func117 rfl Tryz.call117 Tryz.ntmps117 (congrArg Array.toList Tryz.results117) (by simp) ?_
      iterate 10 (try (first | ((first | (with_reducible (first | refine Qa fun K E hK hE => ?_ | refine FunW.ret (FunW.call (cn _)) ?_))); simp -implicitDefEqProofs only [Qd, Qb, Qf, OpW, QQ, aop, undef, AS.ev, Qc, Qn, Qg, Qv, QmZ, AV.Qmr, Qo, Qnc, Qnd, Qs, Qu, QE, Qne, ↓reduceIte, Qm5, Qm6, Nat.reduceAdd, Nat.reduceLT, Nat.reduceEqDiff, Qm4, Ql, QG, QH, aBin, QmS, QmT, QmU, Qm7, Qnb, Q2, QnD, zi24, ti38, XI, QC, f1, f2]) | (with_reducible (first | refine Qi fun K hK => ?_ | refine Qq ?_)) | ((with_reducible refine hK _ ?_); clear hK) | (refine Qk rfl ?_; simp only [↓reduceIte, QmW])))
      (with_reducible refine Qa fun K E hK hE => ?_)
      (try simp only [Qnt]); refine Qy 6 (fun K1 hK1 => ?_); simp -implicitDefEqProofs only [Qb, Qf, OpW, aop, undef, AS.ev, Qc, Qg, Qv, QmZ, Qo, ↓reduceIte, Nat.reduceLT, Nat.reduceEqDiff, Qm4, Ql, QG, QH, QmS, QmT, QmU, Qm7, Qnb, Qm3, Qna, ti3, Xl, QC, f2]; (repeat ((((with_reducible refine FunW.ret (FunW.call (cd _)) ?_)); simp -implicitDefEqProofs only [Qd, QQ, Qc, Nat.reduceLT]))); refine hK1 _ ?_; clear hK1
      (try simp only [Qm1, Qm9]); refine Qy 4 (fun K1 hK1 => ?_); simp -implicitDefEqProofs only [Qd, Qb, Qf, OpW, aop, AS.ev, Qc, Qn, Qg, ↓reduceIte, Nat.reduceLT, Nat.reduceEqDiff, aBin, QmS, QmT, QmU, QmX, QmV, Qm3, Qna, QR, Qm0, y2]; refine hK1 _ ?_; clear hK1
      (try simp only [Qm1, Qm9]); refine Qy 7 (fun K1 hK1 => ?_); simp -implicitDefEqProofs only [Qb, Qf, OpW, aop, undef, AS.ev, Qc, Qn, Qg, Qv, QmZ, Qo, ↓reduceIte, Nat.reduceLT, Nat.reduceEqDiff, Qm4, Ql, QG, QH, aBin, QmS, QmT, QmU, QmX, QmV, Qm7, Qnb, Qm3, Qna, XK, Qm0, ti3, Xl, QC, f2, hw]; (repeat ((((with_reducible refine FunW.ret (FunW.call (cd2 _)) ?_)); simp -implicitDefEqProofs only [Qd, QQ, Qc, Nat.reduceLT]))); refine hK1 _ ?_; clear hK1
      (try simp only [Qm1, Qm9])
      simp -implicitDefEqProofs only [Qd, Qb, Qf, OpW, aop, AS.ev, Qc, Qg, ↓reduceIte, Nat.reduceLT, Nat.reduceEqDiff, QmS, QmT, QmX, QmV, Qm0, QmW]
      repeat (first | ((first | (with_reducible (first | refine Qa fun K E hK hE => ?_ | refine FunW.ret (FunW.call (cl _)) ?_ | refine FunW.ret (FunW.call (cf _)) ?_))); simp -implicitDefEqProofs only [Qd, Qb, Qf, OpW, QQ, aop, undef, AS.ev, Qc, QL, Qn, Qt, Qg, Qv, QmZ, AV.Qmr, Qo, QB, Qnc, Qnd, Qs, Qu, QI, Qne, ↓reduceIte, Qm5, Qm6, Nat.reduceAdd, Nat.reduceLT, Nat.reduceEqDiff, Qm4, Qnq, Ql, QG, QH, QW, QM, aBin, QmS, QmT, Qnm, QmU, QmX, QmV, Qm7, Qnb, QR, Xi, Qnp, QmW, beq_true, T.Qmp, T.Qmq, ti3, ti24, Xl, QC, f2, f4, f6, y3, y5]) | (with_reducible (first | refine Qm ?_ | refine QD ?_ | refine Qj ?_ | refine QF ?_)) | ((with_reducible refine hK _ ?_); clear hK) | (refine Qk rfl ?_; simp only [↓reduceIte, QmW]))
      simp -implicitDefEqProofs only [Qg, ↓reduceIte, Qm5, Qm6, Nat.reduceAdd, Nat.reduceEqDiff, Qm4, Qnq, QG, QH, QmS, QmY, T.Qmp, T.Qmq, ti24, QG, QH, f4, T.Qmp, T.Qmq, QN, Qp, Qw, Qm2]
      exact Zo
      | false =>
      refine Qe Tryz.func117 rfl Tryz.call117 Tryz.ntmps117 (congrArg Array.toList Tryz.results117) (by simp) ?_
      iterate 10 (try (first | ((first | (with_reducible (first | refine Qa fun K E hK hE => ?_ | refine FunW.ret (FunW.call (cn _)) ?_))); simp -implicitDefEqProofs only [Qd, Qb, Qf, OpW, QQ, aop, undef, AS.ev, Qc, Qn, Qg, Qv, QmZ, AV.Qmr, Qo, Qnc, Qnd, Qs, Qu, QE, Qne, ↓reduceIte, Qm5, Qm6, Nat.reduceAdd, Nat.reduceLT, Nat.reduceEqDiff, Qm4, Ql, QG, QH, aBin, QmS, QmT, QmU, Qm7, Qnb, Q2, QnD, zi24, ti38, XI, QC, f1, f2]) | (with_reducible (first | refine Qi fun K hK => ?_ | refine Qq ?_)) | ((with_reducible refine hK _ ?_); clear hK) | (refine Qk rfl ?_; simp only [↓reduceIte, QmW])))
      (with_reducible refine Qa fun K E hK hE => ?_)
      (try simp only [Qnt]); refine Qy 6 (fun K1 hK1 => ?_); simp -implicitDefEqProofs only [Qb, Qf, OpW, aop, undef, AS.ev, Qc, Qg, Qv, QmZ, Qo, ↓reduceIte, Nat.reduceLT, Nat.reduceEqDiff, Qm4, Ql, QG, QH, QmS, QmT, QmU, Qm7, Qnb, Qm3, Qna, ti3, Xl, QC, f2]; (repeat ((((with_reducible refine FunW.ret (FunW.call (cd _)) ?_)); simp -implicitDefEqProofs only [Qd, QQ, Qc, Nat.reduceLT]))); refine hK1 _ ?_; clear hK1
      (try simp only [Qm1, Qm9]); refine Qy 4 (fun K1 hK1 => ?_); simp -implicitDefEqProofs only [Qd, Qb, Qf, OpW, aop, AS.ev, Qc, Qn, Qg, ↓reduceIte, Nat.reduceLT, Nat.reduceEqDiff, aBin, QmS, QmT, QmU, QmX, QmV, Qm3, Qna, QR, Qm0, y2]; refine hK1 _ ?_; clear hK1
      (try simp only [Qm1, Qm9]); refine Qy 7 (fun K1 hK1 => ?_); simp -implicitDefEqProofs only [Qd, Qb, Qf, undef, Qc, Qg, ↓reduceIte, Nat.reduceLT, Nat.reduceEqDiff, QmS, QmT, QmX, QmV, Qm3, Qna, beq_true]; (repeat ((((with_reducible refine Qa fun K E hK hE => ?_)); simp -implicitDefEqProofs only [Qd, Qb, Qf, OpW, QQ, aop, undef, ZB, Qny, Qnz, QaA, Y7, ZG, AS.ev, Qc, QL, Qn, Qt, QO, XG, ZI, XQ, X7, Xh, ZH, Qg, Qv, QmZ, Qni, AV.Qmr, Qo, QT, Xv, YN, Xj, YI, Y6, Za, YA, QB, Q7, Yz, YK, Yu, YL, Zb, Y8, YE, Qnc, Qnd, Qs, Yk, Qu, QE, YG, XH, XL, XD, QI, YD, Xq, YB, Y5, Y9, YC, Qne, QnB, QnC, Qnf, Qng, ↓reduceIte, Qm5, Qm6, Nat.reduceAdd, Nat.reduceLT, Nat.reduceLeDiff, Nat.reduceEqDiff, Nat.reduceSub, Nat.reduceMul, Qm4, Qnh, Qnr, Qns, Qnq, Xz, XT, Ql, QG, QH, QW, QM, aBin, Xs, Xn, XE, Q0, hget, Ym, hset, hlen, happ, QmS, QmT, QnI, Qnm, Qnn, QmU, Qnx, QmX, Qnw, QmY, Qnt, QmV, Qm7, Qnb, Qnk, Qnj, Qnl, Qm3, Qna, Qm1, Qm9, QR, Q2, Q9, Xi, XK, Xp, QY, Yw, goInt, Qno, Qnp, Qm0, QnD, Qnv, Int.toNat_zero, Int.toNat_one, Qnu, QnG, QnH, QnE, QmW, QnA, beq_true, beq_false, rng0, rng1, rng2, rng3, rng4, rng5, rng6, rng7, rng8, Xk, Nat.reducePow, Nat.zero_le, Nat.zero_mul, T.Qmp, T.Qmq, QK, X6, ti0, zi0, ti3, zi3, un3, ti4, zi4, un4, ti5, zi5, un5, ti9, ei9, zi9, un9, ti22, ei22, ai22, zi22, un22, ti24, Xu, XF, XA, Xx, zi24, sp24, ti38, zi38, un38, ti78, zi78, un78, ti80, Xm, Xl, XI, zi80, sp80, QcY, QnF, Int.sub_zero, QaG, QC, f1, f2, f4, f6, z0, y2]))); refine hK1 _ ?_; clear hK1
      (try simp only [Qm1, Qm9])
      simp -implicitDefEqProofs only [Qd, Qb, Qf, OpW, aop, AS.ev, Qc, Qt, Qg, ↓reduceIte, Nat.reduceLT, Nat.reduceEqDiff, QmS, QmT, QmX, QmV, Qm0, QmW]
      repeat (first | ((first | (with_reducible (first | refine Qa fun K E hK hE => ?_ | refine FunW.ret (FunW.call (cl _)) ?_ | refine FunW.ret (FunW.call (cf _)) ?_))); simp -implicitDefEqProofs only [Qd, Qb, Qf, OpW, QQ, aop, undef, AS.ev, Qc, QL, Qn, Qt, Qg, Qv, QmZ, AV.Qmr, Qo, QB, Qnc, Qnd, Qs, Qu, QI, Qne, ↓reduceIte, Qm5, Qm6, Nat.reduceAdd, Nat.reduceLT, Nat.reduceEqDiff, Qm4, Qnq, Ql, QG, QH, QW, QM, aBin, QmS, QmT, Qnm, QmU, QmX, QmV, Qm7, Qnb, QR, Xi, Qnp, QmW, beq_true, T.Qmp, T.Qmq, ti3, ti24, Xl, QC, f2, f4, f6, y3, y5]) | (with_reducible (first | refine Qm ?_ | refine QD ?_ | refine Qj ?_ | refine QF ?_)) | ((with_reducible refine hK _ ?_); clear hK) | (refine Qk rfl ?_; simp only [↓reduceIte, QmW]))
      simp -implicitDefEqProofs only [Qg, ↓reduceIte, Qm5, Qm6, Nat.reduceAdd, Nat.reduceEqDiff, Qm4, Qnq, QG, QH, QmS, QmY, T.Qmp, T.Qmq, ti24, QG, QH, f4, T.Qmp, T.Qmq, QN, Qp, Qw, Qm2]
      exact Zo
theorem QlV (ex : List UInt8 → RT) (h1 : isD c = false) (h2 : ¬ (c.toNat = 45 ∧ headD r2 = true)) (h3 : ¬ (97 ≤ c.toNat ∧ c.toNat ≤ 122)) (h4 : isL c = true) : Xf Tryz.prog 117 [.ptr j 0 0] (hs h j (rr sb r 0)) (DQ sb h j (Zu ex r)) := by
  have f1 := fun x => Xw h j x
  have f2 := Yh hj sb
  have f3 := fun q e r2 e2 => Y0 hj sb q e r2 e2
  have f4 := fun x L => Yg (h := h) (i := j) x L
  have f5 := fun x L k => Qaa (h := h) (i := j) x L k
  have f6 := fun x y L => X5 (h := h) (i := j) x y L
  have f7 := fun x y L k => YQ (h := h) (i := j) x y L k
  have z0 : ((0 : Int) != 0) = false := rfl
  have cn := fun L => Yq hb hr hj L
  have hsS := hr.skip
  rw [show nx r = c.toNat by rw [nx, hsk], hsk] at cn
  rw [hsk] at hsS
  have hlt := Xe hsk
  have hs2 := hsS.tail
  have hw := Y4 hsS hb
  have cd := fun L => XM hb hsS hj (c :: r2) 0 L
  have cd2 := fun L => XM hb hs2 hj (c :: r2) 0 L
  have cl := fun L => YO hb hsS hj (c :: r2) 0 L
  simp only [headD, Qbv] at cd cl
  rw [h1] at cd
  have y1 : (((c.toNat : Nat) : Int) == 45) = true → headD r2 = false := fun e => by
    cases h : headD r2 with
    | true => exact absurd ⟨by have := beq_iff_eq.1 e; omega, h⟩ h2
    | false => rfl
  rw [h4] at cl
  have cw := fun L => Qeq hb hsS hj L
  have hl4 : 97 ≤ c.toNat ∧ c.toNat ≤ 122 ∨ 65 ≤ c.toNat ∧ c.toNat ≤ 90 ∨ c.toNat = 95 := by simpa [isL] using h4
  have y3 : ¬ ((c.toNat : Nat) : Int) ≥ 97 := by omega
  have y2 : (((c.toNat : Nat) : Int) == 45) = false := by simp; omega
  cases hv : varV (mkB ((c :: r2).takeWhile isW)) with
  | none =>
    have e5 : Zu ex r = (zT, (c :: r2).dropWhile isW, 7) := by rw [Zu, hsk]; simp only; rw [if_neg (by rw [h1]; decide), if_neg h2, if_neg h3, if_pos h4, hv]
    have cN := Qeb (mkB ((c :: r2).takeWhile isW)) (Qf0 hv)
    have cf := fun L => (Y3 (s := sb) ((c :: r2).dropWhile isW) 7 j).app hj L
    rw [e5]
    refine Qe Tryz.func117 rfl Tryz.call117 Tryz.ntmps117 (congrArg Array.toList Tryz.results117) (by simp) ?_
    iterate 10 (try (first | ((first | (with_reducible (first | refine Qa fun K E hK hE => ?_ | refine FunW.ret (FunW.call (cn _)) ?_))); simp -implicitDefEqProofs only [Qd, Qb, Qf, OpW, QQ, aop, undef, AS.ev, Qc, Qn, Qg, Qv, QmZ, AV.Qmr, Qo, Qnc, Qnd, Qs, Qu, QE, Qne, ↓reduceIte, Qm5, Qm6, Nat.reduceAdd, Nat.reduceLT, Nat.reduceEqDiff, Qm4, Ql, QG, QH, aBin, QmS, QmT, QmU, Qm7, Qnb, Q2, QnD, zi24, ti38, XI, QC, f1, f2]) | (with_reducible (first | refine Qi fun K hK => ?_ | refine Qq ?_)) | ((with_reducible refine hK _ ?_); clear hK) | (refine Qk rfl ?_; simp only [↓reduceIte, QmW])))
    (with_reducible refine Qa fun K E hK hE => ?_)
    (try simp only [Qnt]); refine Qy 6 (fun K1 hK1 => ?_); simp -implicitDefEqProofs only [Qb, Qf, OpW, aop, undef, AS.ev, Qc, Qg, Qv, QmZ, Qo, ↓reduceIte, Nat.reduceLT, Nat.reduceEqDiff, Qm4, Ql, QG, QH, QmS, QmT, QmU, Qm7, Qnb, Qm3, Qna, ti3, Xl, QC, f2]; (repeat ((((with_reducible refine FunW.ret (FunW.call (cd _)) ?_)); simp -implicitDefEqProofs only [Qd, QQ, Qc, Nat.reduceLT]))); refine hK1 _ ?_; clear hK1
    (try simp only [Qm1, Qm9]); refine Qy 4 (fun K1 hK1 => ?_); simp -implicitDefEqProofs only [Qd, Qb, Qf, OpW, aop, AS.ev, Qc, Qn, Qg, ↓reduceIte, Nat.reduceLT, Nat.reduceEqDiff, aBin, QmS, QmT, QmU, QmX, QmV, Qm3, Qna, QR, Qm0, y2]; refine hK1 _ ?_; clear hK1
    (try simp only [Qm1, Qm9]); refine Qy 7 (fun K1 hK1 => ?_); simp -implicitDefEqProofs only [Qd, Qb, Qf, undef, Qc, Qg, ↓reduceIte, Nat.reduceLT, Nat.reduceEqDiff, QmS, QmT, QmX, QmV, Qm3, Qna, beq_true]; (repeat ((((with_reducible refine Qa fun K E hK hE => ?_)); simp -implicitDefEqProofs only [Qd, Qb, Qf, OpW, QQ, aop, undef, ZB, Qny, Qnz, QaA, Y7, ZG, AS.ev, Qc, QL, Qn, Qt, QO, XG, ZI, XQ, X7, Xh, ZH, Qg, Qv, QmZ, Qni, AV.Qmr, Qo, QT, Xv, YN, Xj, YI, Y6, Za, YA, QB, Q7, Yz, YK, Yu, YL, Zb, Y8, YE, Qnc, Qnd, Qs, Yk, Qu, QE, YG, XH, XL, XD, QI, YD, Xq, YB, Y5, Y9, YC, Qne, QnB, QnC, Qnf, Qng, ↓reduceIte, Qm5, Qm6, Nat.reduceAdd, Nat.reduceLT, Nat.reduceLeDiff, Nat.reduceEqDiff, Nat.reduceSub, Nat.reduceMul, Qm4, Qnh, Qnr, Qns, Qnq, Xz, XT, Ql, QG, QH, QW, QM, aBin, Xs, Xn, XE, Q0, hget, Ym, hset, hlen, happ, QmS, QmT, QnI, Qnm, Qnn, QmU, Qnx, QmX, Qnw, QmY, Qnt, QmV, Qm7, Qnb, Qnk, Qnj, Qnl, Qm3, Qna, Qm1, Qm9, QR, Q2, Q9, Xi, XK, Xp, QY, Yw, goInt, Qno, Qnp, Qm0, QnD, Qnv, Int.toNat_zero, Int.toNat_one, Qnu, QnG, QnH, QnE, QmW, QnA, beq_true, beq_false, rng0, rng1, rng2, rng3, rng4, rng5, rng6, rng7, rng8, Xk, Nat.reducePow, Nat.zero_le, Nat.zero_mul, T.Qmp, T.Qmq, QK, X6, ti0, zi0, ti3, zi3, un3, ti4, zi4, un4, ti5, zi5, un5, ti9, ei9, zi9, un9, ti22, ei22, ai22, zi22, un22, ti24, Xu, XF, XA, Xx, zi24, sp24, ti38, zi38, un38, ti78, zi78, un78, ti80, Xm, Xl, XI, zi80, sp80, QcY, QnF, Int.sub_zero, QaG, QC, f1, f2, f4, f6, z0, y2]))); refine hK1 _ ?_; clear hK1
    (try simp only [Qm1, Qm9])
    simp -implicitDefEqProofs only [Qd, Qb, Qf, OpW, aop, AS.ev, Qc, Qt, Qg, ↓reduceIte, Nat.reduceLT, Nat.reduceEqDiff, QmS, QmT, QmX, QmV, Qm0, QmW]
    repeat (first | ((first | (with_reducible (first | refine Qa fun K E hK hE => ?_ | refine FunW.ret (FunW.call (cl _)) ?_ | refine FunW.ret (FunW.call (cw _)) ?_ | refine Qz cN ?_ | refine FunW.ret (FunW.call (cf _)) ?_))); simp -implicitDefEqProofs only [Qd, Qb, Qf, OpW, QQ, aop, undef, AS.ev, Qc, QL, Qn, Qt, Qg, Qv, QmZ, AV.Qmr, Qo, QB, Qnc, Qnd, Qs, Qu, QI, Qne, Qng, ↓reduceIte, Qm5, Qm6, Nat.reduceAdd, Nat.reduceLT, Nat.reduceEqDiff, Qm4, Qnq, Ql, QG, QH, QW, QM, aBin, Xs, QmS, QmT, Qnm, QmU, QmX, QmV, Qm7, Qnb, Xi, Xp, Qnp, QmW, beq_true, T.Qmp, T.Qmq, ti3, ti24, Xl, QC, f2, f4, f6, y3]) | (with_reducible (first | refine Qi fun K hK => ?_ | refine Qm ?_ | refine QA ?_ | refine QJ ?_)) | ((with_reducible refine hK _ ?_); clear hK) | (refine Qk rfl ?_; simp only [↓reduceIte, QmW]))
    simp -implicitDefEqProofs only [Qg, ↓reduceIte, Qm5, Qm6, Nat.reduceAdd, Nat.reduceEqDiff, Qm4, Qnq, QG, QH, QmS, QmY, T.Qmp, T.Qmq, ti24, QG, QH, f4, T.Qmp, T.Qmq, QN, Qp, Qw, Qm2]
    exact Zo
  | some k =>
    have e5 : Zu ex r = (.mk 1 k eB [], (c :: r2).dropWhile isW, 0) := by rw [Zu, hsk]; simp only; rw [if_neg (by rw [h1]; decide), if_neg h2, if_neg h3, if_pos h4, hv]
    have cN := QfA (mkB ((c :: r2).takeWhile isW)) k (QfV hv)
    rw [e5]
    refine Qe Tryz.func117 rfl Tryz.call117 Tryz.ntmps117 (congrArg Array.toList Tryz.results117) (by simp) ?_
    iterate 10 (try (first | ((first | (with_reducible (first | refine Qa fun K E hK hE => ?_ | refine FunW.ret (FunW.call (cn _)) ?_))); simp -implicitDefEqProofs only [Qd, Qb, Qf, OpW, QQ, aop, undef, AS.ev, Qc, Qn, Qg, Qv, QmZ, AV.Qmr, Qo, Qnc, Qnd, Qs, Qu, QE, Qne, ↓reduceIte, Qm5, Qm6, Nat.reduceAdd, Nat.reduceLT, Nat.reduceEqDiff, Qm4, Ql, QG, QH, aBin, QmS, QmT, QmU, Qm7, Qnb, Q2, QnD, zi24, ti38, XI, QC, f1, f2]) | (with_reducible (first | refine Qi fun K hK => ?_ | refine Qq ?_)) | ((with_reducible refine hK _ ?_); clear hK) | (refine Qk rfl ?_; simp only [↓reduceIte, QmW])))
    (with_reducible refine Qa fun K E hK hE => ?_)
    (try simp only [Qnt]); refine Qy 6 (fun K1 hK1 => ?_); simp -implicitDefEqProofs only [Qb, Qf, OpW, aop, undef, AS.ev, Qc, Qg, Qv, QmZ, Qo, ↓reduceIte, Nat.reduceLT, Nat.reduceEqDiff, Qm4, Ql, QG, QH, QmS, QmT, QmU, Qm7, Qnb, Qm3, Qna, ti3, Xl, QC, f2]; (repeat ((((with_reducible refine FunW.ret (FunW.call (cd _)) ?_)); simp -implicitDefEqProofs only [Qd, QQ, Qc, Nat.reduceLT]))); refine hK1 _ ?_; clear hK1
    (try simp only [Qm1, Qm9]); refine Qy 4 (fun K1 hK1 => ?_); simp -implicitDefEqProofs only [Qd, Qb, Qf, OpW, aop, AS.ev, Qc, Qn, Qg, ↓reduceIte, Nat.reduceLT, Nat.reduceEqDiff, aBin, QmS, QmT, QmU, QmX, QmV, Qm3, Qna, QR, Qm0, y2]; refine hK1 _ ?_; clear hK1
    (try simp only [Qm1, Qm9]); refine Qy 7 (fun K1 hK1 => ?_); simp -implicitDefEqProofs only [Qd, Qb, Qf, undef, Qc, Qg, ↓reduceIte, Nat.reduceLT, Nat.reduceEqDiff, QmS, QmT, QmX, QmV, Qm3, Qna, beq_true]; (repeat ((((with_reducible refine Qa fun K E hK hE => ?_)); simp -implicitDefEqProofs only [Qd, Qb, Qf, OpW, QQ, aop, undef, ZB, Qny, Qnz, QaA, Y7, ZG, AS.ev, Qc, QL, Qn, Qt, QO, XG, ZI, XQ, X7, Xh, ZH, Qg, Qv, QmZ, Qni, AV.Qmr, Qo, QT, Xv, YN, Xj, YI, Y6, Za, YA, QB, Q7, Yz, YK, Yu, YL, Zb, Y8, YE, Qnc, Qnd, Qs, Yk, Qu, QE, YG, XH, XL, XD, QI, YD, Xq, YB, Y5, Y9, YC, Qne, QnB, QnC, Qnf, Qng, ↓reduceIte, Qm5, Qm6, Nat.reduceAdd, Nat.reduceLT, Nat.reduceLeDiff, Nat.reduceEqDiff, Nat.reduceSub, Nat.reduceMul, Qm4, Qnh, Qnr, Qns, Qnq, Xz, XT, Ql, QG, QH, QW, QM, aBin, Xs, Xn, XE, Q0, hget, Ym, hset, hlen, happ, QmS, QmT, QnI, Qnm, Qnn, QmU, Qnx, QmX, Qnw, QmY, Qnt, QmV, Qm7, Qnb, Qnk, Qnj, Qnl, Qm3, Qna, Qm1, Qm9, QR, Q2, Q9, Xi, XK, Xp, QY, Yw, goInt, Qno, Qnp, Qm0, QnD, Qnv, Int.toNat_zero, Int.toNat_one, Qnu, QnG, QnH, QnE, QmW, QnA, beq_true, beq_false, rng0, rng1, rng2, rng3, rng4, rng5, rng6, rng7, rng8, Xk, Nat.reducePow, Nat.zero_le, Nat.zero_mul, T.Qmp, T.Qmq, QK, X6, ti0, zi0, ti3, zi3, un3, ti4, zi4, un4, ti5, zi5, un5, ti9, ei9, zi9, un9, ti22, ei22, ai22, zi22, un22, ti24, Xu, XF, XA, Xx, zi24, sp24, ti38, zi38, un38, ti78, zi78, un78, ti80, Xm, Xl, XI, zi80, sp80, QcY, QnF, Int.sub_zero, QaG, QC, f1, f2, f4, f6, z0, y2]))); refine hK1 _ ?_; clear hK1
    (try simp only [Qm1, Qm9])
    simp -implicitDefEqProofs only [Qd, Qb, Qf, OpW, aop, AS.ev, Qc, Qt, Qg, ↓reduceIte, Nat.reduceLT, Nat.reduceEqDiff, QmS, QmT, QmX, QmV, Qm0, QmW]
    repeat (first | ((first | (with_reducible (first | refine Qa fun K E hK hE => ?_ | refine FunW.ret (FunW.call (cl _)) ?_ | refine FunW.ret (FunW.call (cw _)) ?_ | refine Qz cN ?_))); simp -implicitDefEqProofs only [Qd, Qb, Qf, OpW, QQ, aop, undef, AS.ev, Qc, QL, Qn, Qt, Qg, Qv, QmZ, AV.Qmr, Qo, QT, QB, Qnc, Qnd, Qs, Qu, QE, Qne, Qnf, ↓reduceIte, Qm5, Qm6, Nat.reduceAdd, Nat.reduceLT, Nat.reduceLeDiff, Nat.reduceEqDiff, Qm4, Qnq, Ql, QG, QH, QW, QM, aBin, Xs, Xn, XE, QmS, QmT, Qnm, QmU, QmX, QmV, Qm7, Qnb, Qnk, Qnj, Qm3, Qna, Qm1, Qm9, Xi, Xp, Qnp, QmW, beq_true, ti3, ti24, zi24, sp24, Xl, QC, f2, f4, f6, y3]) | (with_reducible (first | refine Qi fun K hK => ?_ | refine Qm ?_ | refine QD ?_ | refine Qj ?_ | refine QA ?_ | refine QJ ?_)) | ((with_reducible refine hK _ ?_); clear hK) | (refine Qk rfl ?_; simp only [↓reduceIte, QmW]))
    simp -implicitDefEqProofs only [Qg, Qo, QB, ↓reduceIte, Qm5, Qm6, Nat.reduceAdd, Nat.reduceEqDiff, Qm4, Qnq, QG, QH, QmS, QmY, ti24, QG, QH, f4, QN, Qp, Qw, Qm2]
    exact Xa (r := .agg [.i 1, .i k, .v (.string { data := #[] }), .v (.slice none 0 0)]) (r' := (T.mk 1 k eB []).av) (Q := fun v h' => DQ sb h j (.mk 1 k eB [], (c :: r2).dropWhile isW, 0) (.ret v) h') (ZM _ _ _ _) (.agg rfl (Xd (.keep (.v _)) (Xd (.keep (.v _)) (Xd (.keep (.v _)) (XS (.nil 4)))))) ⟨rfl, rfl⟩
theorem Qmg {ex : List UInt8 → RT} {N : Nat} (H : Sdr sb 50 ex N) (hS : Sf ex) (hN : N ≤ 1000000) (hl : r.length < N + 1) (h1 : isD c = false) (h2 : ¬ (c.toNat = 45 ∧ headD r2 = true)) (h3 : 97 ≤ c.toNat ∧ c.toNat ≤ 122) : Xf Tryz.prog 117 [.ptr j 0 0] (hs h j (rr sb r 0)) (DQ sb h j (Zu ex r)) := by
  have f1 := fun x => Xw h j x
  have f2 := Yh hj sb
  have f3 := fun q e r2 e2 => Y0 hj sb q e r2 e2
  have f4 := fun x L => Yg (h := h) (i := j) x L
  have f5 := fun x L k => Qaa (h := h) (i := j) x L k
  have f6 := fun x y L => X5 (h := h) (i := j) x y L
  have f7 := fun x y L k => YQ (h := h) (i := j) x y L k
  have z0 : ((0 : Int) != 0) = false := rfl
  have cn := fun L => Yq hb hr hj L
  have hsS := hr.skip
  rw [show nx r = c.toNat by rw [nx, hsk], hsk] at cn
  rw [hsk] at hsS
  have hlt := Xe hsk
  have hs2 := hsS.tail
  have hw := Y4 hsS hb
  have cd := fun L => XM hb hsS hj (c :: r2) 0 L
  have cd2 := fun L => XM hb hs2 hj (c :: r2) 0 L
  have cl := fun L => YO hb hsS hj (c :: r2) 0 L
  simp only [headD, Qbv] at cd cl
  rw [h1] at cd
  have y1 : (((c.toNat : Nat) : Int) == 45) = true → headD r2 = false := fun e => by
    cases h : headD r2 with
    | true => exact absurd ⟨by have := beq_iff_eq.1 e; omega, h⟩ h2
    | false => rfl
  have y2 : (((c.toNat : Nat) : Int) == 45) = false := by simp; omega
  have y3 : ((c.toNat : Nat) : Int) ≥ 97 := by omega
  have y4 : ((c.toNat : Nat) : Int) ≤ 122 := by omega
  have e5 : Zu ex r = (.mk 2 0 (mkB ((c :: r2).takeWhile isW)) (rName ex (c :: r2)).1, (rName ex (c :: r2)).2) := by rw [Zu, hsk]; simp only; rw [if_neg (by rw [h1]; decide), if_neg h2, if_pos h3]
  have cm := fun L => Qew hb hsS hj L
  have hw1 : isW c = true := Qgb (by rw [isL, decide_eq_true (.inl h3)])
  have hdl : ((c :: r2).dropWhile isW).length < N + 1 := by
    have := Z6 isW r2
    rw [List.dropWhile_cons, hw1]; simp only [if_true]; omega
  have hsD := hsS.drop isW
  rw [e5, rName]
  cases hrb : Yp (mkB ((c :: r2).takeWhile isW)) with
  | true =>
    rw [hrb, if_pos rfl] at cm
    rw [if_pos rfl]
    have cA : ∀ L, Xf Tryz.prog 58 [.ptr j 0 0] (hs h j (rr sb ((c :: r2).dropWhile isW) 0) ++ L) fun o h' => o = .ret (.sl 4 (avs (QaP ex ((c :: r2).dropWhile isW)).1) none) ∧ h' = hs h j (rr sb (QaP ex ((c :: r2).dropWhile isW)).2.1 (QaP ex ((c :: r2).dropWhile isW)).2.2) ++ L := fun L => by
      have := QeA hb H hS hN ((c :: r2).dropWhile isW) hsD hdl (h ++ L) j (by rw [List.length_append]; omega)
      rw [X4 hj, X4 hj] at this
      exact this
    generalize QaP ex ((c :: r2).dropWhile isW) = X at *
    obtain ⟨X1, X2, X3⟩ := X
    refine Qe Tryz.func117 rfl Tryz.call117 Tryz.ntmps117 (congrArg Array.toList Tryz.results117) (by simp) ?_
    iterate 10 (try (first | ((first | (with_reducible (first | refine Qa fun K E hK hE => ?_ | refine FunW.ret (FunW.call (cn _)) ?_))); simp -implicitDefEqProofs only [Qd, Qb, Qf, OpW, QQ, aop, undef, AS.ev, Qc, Qn, Qg, Qv, QmZ, AV.Qmr, Qo, Qnc, Qnd, Qs, Qu, QE, Qne, ↓reduceIte, Qm5, Qm6, Nat.reduceAdd, Nat.reduceLT, Nat.reduceEqDiff, Qm4, Ql, QG, QH, aBin, QmS, QmT, QmU, Qm7, Qnb, Q2, QnD, zi24, ti38, XI, QC, f1, f2]) | (with_reducible (first | refine Qi fun K hK => ?_ | refine Qq ?_)) | ((with_reducible refine hK _ ?_); clear hK) | (refine Qk rfl ?_; simp only [↓reduceIte, QmW])))
    (with_reducible refine Qa fun K E hK hE => ?_)
    (try simp only [Qnt]); refine Qy 6 (fun K1 hK1 => ?_); simp -implicitDefEqProofs only [Qb, Qf, OpW, aop, undef, AS.ev, Qc, Qg, Qv, QmZ, Qo, ↓reduceIte, Nat.reduceLT, Nat.reduceEqDiff, Qm4, Ql, QG, QH, QmS, QmT, QmU, Qm7, Qnb, Qm3, Qna, ti3, Xl, QC, f2]; (repeat ((((with_reducible refine FunW.ret (FunW.call (cd _)) ?_)); simp -implicitDefEqProofs only [Qd, QQ, Qc, Nat.reduceLT]))); refine hK1 _ ?_; clear hK1
    (try simp only [Qm1, Qm9]); refine Qy 4 (fun K1 hK1 => ?_); simp -implicitDefEqProofs only [Qd, Qb, Qf, OpW, aop, AS.ev, Qc, Qn, Qg, ↓reduceIte, Nat.reduceLT, Nat.reduceEqDiff, aBin, QmS, QmT, QmU, QmX, QmV, Qm3, Qna, QR, Qm0, y2]; refine hK1 _ ?_; clear hK1
    (try simp only [Qm1, Qm9]); refine Qy 7 (fun K1 hK1 => ?_); simp -implicitDefEqProofs only [Qd, Qb, Qf, undef, Qc, Qg, ↓reduceIte, Nat.reduceLT, Nat.reduceEqDiff, QmS, QmT, QmX, QmV, Qm3, Qna, beq_true]; (repeat ((((with_reducible refine Qa fun K E hK hE => ?_)); simp -implicitDefEqProofs only [Qd, Qb, Qf, OpW, QQ, aop, undef, ZB, Qny, Qnz, QaA, Y7, ZG, AS.ev, Qc, QL, Qn, Qt, QO, XG, ZI, XQ, X7, Xh, ZH, Qg, Qv, QmZ, Qni, AV.Qmr, Qo, QT, Xv, YN, Xj, YI, Y6, Za, YA, QB, Q7, Yz, YK, Yu, YL, Zb, Y8, YE, Qnc, Qnd, Qs, Yk, Qu, QE, YG, XH, XL, XD, QI, YD, Xq, YB, Y5, Y9, YC, Qne, QnB, QnC, Qnf, Qng, ↓reduceIte, Qm5, Qm6, Nat.reduceAdd, Nat.reduceLT, Nat.reduceLeDiff, Nat.reduceEqDiff, Nat.reduceSub, Nat.reduceMul, Qm4, Qnh, Qnr, Qns, Qnq, Xz, XT, Ql, QG, QH, QW, QM, aBin, Xs, Xn, XE, Q0, hget, Ym, hset, hlen, happ, QmS, QmT, QnI, Qnm, Qnn, QmU, Qnx, QmX, Qnw, QmY, Qnt, QmV, Qm7, Qnb, Qnk, Qnj, Qnl, Qm3, Qna, Qm1, Qm9, QR, Q2, Q9, Xi, XK, Xp, QY, Yw, goInt, Qno, Qnp, Qm0, QnD, Qnv, Int.toNat_zero, Int.toNat_one, Qnu, QnG, QnH, QnE, QmW, QnA, beq_true, beq_false, rng0, rng1, rng2, rng3, rng4, rng5, rng6, rng7, rng8, Xk, Nat.reducePow, Nat.zero_le, Nat.zero_mul, T.Qmp, T.Qmq, QK, X6, ti0, zi0, ti3, zi3, un3, ti4, zi4, un4, ti5, zi5, un5, ti9, ei9, zi9, un9, ti22, ei22, ai22, zi22, un22, ti24, Xu, XF, XA, Xx, zi24, sp24, ti38, zi38, un38, ti78, zi78, un78, ti80, Xm, Xl, XI, zi80, sp80, QcY, QnF, Int.sub_zero, QaG, QC, f1, f2, f4, f6, z0, y2]))); refine hK1 _ ?_; clear hK1
    (try simp only [Qm1, Qm9])
    simp -implicitDefEqProofs only [Qd, Qb, Qf, OpW, aop, AS.ev, Qc, Qt, Qg, ↓reduceIte, Nat.reduceLT, Nat.reduceEqDiff, QmS, QmT, QmX, QmV, Qm0, QmW]
    repeat (first | ((first | (with_reducible (first | refine Qa fun K E hK hE => ?_ | refine FunW.ret (FunW.call (cm _)) ?_ | refine FunW.ret (FunW.call (cA _)) ?_))); simp -implicitDefEqProofs only [Qd, Qb, Qf, OpW, QQ, aop, undef, AS.ev, Qc, QL, Qn, Qg, Qv, QmZ, AV.Qmr, Qo, QT, Xv, QB, Qnc, Qnd, Qs, Qu, QE, QI, Qne, ↓reduceIte, Qm5, Qm6, Nat.reduceAdd, Nat.reduceLT, Nat.reduceLeDiff, Nat.reduceEqDiff, Qm4, Qnq, QW, QM, aBin, Xn, XE, QmS, QmT, Qnm, QmU, QmX, QmV, Qm7, Qnb, Qnk, Qnj, Qnl, Qm3, Qna, Qm1, Qm9, Q9, Xi, Qno, Qm0, ti24, zi24, sp24, f4, f6, y3, y4]) | (with_reducible (first | refine Qm ?_ | refine QA ?_ | refine QJ ?_)) | ((with_reducible refine hK _ ?_); clear hK) | (refine Qk rfl ?_; simp only [↓reduceIte, QmW]))
    simp -implicitDefEqProofs only [Qg, Qo, QB, ↓reduceIte, Qm5, Qm6, Nat.reduceAdd, Nat.reduceEqDiff, Qm4, Qnq, QG, QH, QmS, QmY, ti24, QG, QH, f4, QN, Qp, Qw, Qm2]
    exact Xa (r := .agg [.i 2, .i 0, .v (.string (mkB ((c :: r2).takeWhile isW))), .sl 4 (avs X1) none]) (r' := (T.mk 2 0 (mkB ((c :: r2).takeWhile isW)) X1).av) (Q := fun v h' => DQ sb h j (.mk 2 0 (mkB ((c :: r2).takeWhile isW)) X1, X2, X3) (.ret v) h') (ZM _ _ _ _) (.keep (T.Qmu _ (T.mk 2 0 (mkB ((c :: r2).takeWhile isW)) X1))) ⟨rfl, rfl⟩
  | false =>
    rw [hrb, if_neg (by decide)] at cm
    rw [if_neg (by decide)]
    have cA := fun L => QdY hb (show (7 : Int) ≠ 0 by decide) hsD hj L
    refine Qe Tryz.func117 rfl Tryz.call117 Tryz.ntmps117 (congrArg Array.toList Tryz.results117) (by simp) ?_
    iterate 10 (try (first | ((first | (with_reducible (first | refine Qa fun K E hK hE => ?_ | refine FunW.ret (FunW.call (cn _)) ?_))); simp -implicitDefEqProofs only [Qd, Qb, Qf, OpW, QQ, aop, undef, AS.ev, Qc, Qn, Qg, Qv, QmZ, AV.Qmr, Qo, Qnc, Qnd, Qs, Qu, QE, Qne, ↓reduceIte, Qm5, Qm6, Nat.reduceAdd, Nat.reduceLT, Nat.reduceEqDiff, Qm4, Ql, QG, QH, aBin, QmS, QmT, QmU, Qm7, Qnb, Q2, QnD, zi24, ti38, XI, QC, f1, f2]) | (with_reducible (first | refine Qi fun K hK => ?_ | refine Qq ?_)) | ((with_reducible refine hK _ ?_); clear hK) | (refine Qk rfl ?_; simp only [↓reduceIte, QmW])))
    (with_reducible refine Qa fun K E hK hE => ?_)
    (try simp only [Qnt]); refine Qy 6 (fun K1 hK1 => ?_); simp -implicitDefEqProofs only [Qb, Qf, OpW, aop, undef, AS.ev, Qc, Qg, Qv, QmZ, Qo, ↓reduceIte, Nat.reduceLT, Nat.reduceEqDiff, Qm4, Ql, QG, QH, QmS, QmT, QmU, Qm7, Qnb, Qm3, Qna, ti3, Xl, QC, f2]; (repeat ((((with_reducible refine FunW.ret (FunW.call (cd _)) ?_)); simp -implicitDefEqProofs only [Qd, QQ, Qc, Nat.reduceLT]))); refine hK1 _ ?_; clear hK1
    (try simp only [Qm1, Qm9]); refine Qy 4 (fun K1 hK1 => ?_); simp -implicitDefEqProofs only [Qd, Qb, Qf, OpW, aop, AS.ev, Qc, Qn, Qg, ↓reduceIte, Nat.reduceLT, Nat.reduceEqDiff, aBin, QmS, QmT, QmU, QmX, QmV, Qm3, Qna, QR, Qm0, y2]; refine hK1 _ ?_; clear hK1
    (try simp only [Qm1, Qm9]); refine Qy 7 (fun K1 hK1 => ?_); simp -implicitDefEqProofs only [Qd, Qb, Qf, undef, Qc, Qg, ↓reduceIte, Nat.reduceLT, Nat.reduceEqDiff, QmS, QmT, QmX, QmV, Qm3, Qna, beq_true]; (repeat ((((with_reducible refine Qa fun K E hK hE => ?_)); simp -implicitDefEqProofs only [Qd, Qb, Qf, OpW, QQ, aop, undef, ZB, Qny, Qnz, QaA, Y7, ZG, AS.ev, Qc, QL, Qn, Qt, QO, XG, ZI, XQ, X7, Xh, ZH, Qg, Qv, QmZ, Qni, AV.Qmr, Qo, QT, Xv, YN, Xj, YI, Y6, Za, YA, QB, Q7, Yz, YK, Yu, YL, Zb, Y8, YE, Qnc, Qnd, Qs, Yk, Qu, QE, YG, XH, XL, XD, QI, YD, Xq, YB, Y5, Y9, YC, Qne, QnB, QnC, Qnf, Qng, ↓reduceIte, Qm5, Qm6, Nat.reduceAdd, Nat.reduceLT, Nat.reduceLeDiff, Nat.reduceEqDiff, Nat.reduceSub, Nat.reduceMul, Qm4, Qnh, Qnr, Qns, Qnq, Xz, XT, Ql, QG, QH, QW, QM, aBin, Xs, Xn, XE, Q0, hget, Ym, hset, hlen, happ, QmS, QmT, QnI, Qnm, Qnn, QmU, Qnx, QmX, Qnw, QmY, Qnt, QmV, Qm7, Qnb, Qnk, Qnj, Qnl, Qm3, Qna, Qm1, Qm9, QR, Q2, Q9, Xi, XK, Xp, QY, Yw, goInt, Qno, Qnp, Qm0, QnD, Qnv, Int.toNat_zero, Int.toNat_one, Qnu, QnG, QnH, QnE, QmW, QnA, beq_true, beq_false, rng0, rng1, rng2, rng3, rng4, rng5, rng6, rng7, rng8, Xk, Nat.reducePow, Nat.zero_le, Nat.zero_mul, T.Qmp, T.Qmq, QK, X6, ti0, zi0, ti3, zi3, un3, ti4, zi4, un4, ti5, zi5, un5, ti9, ei9, zi9, un9, ti22, ei22, ai22, zi22, un22, ti24, Xu, XF, XA, Xx, zi24, sp24, ti38, zi38, un38, ti78, zi78, un78, ti80, Xm, Xl, XI, zi80, sp80, QcY, QnF, Int.sub_zero, QaG, QC, f1, f2, f4, f6, z0, y2]))); refine hK1 _ ?_; clear hK1
    (try simp only [Qm1, Qm9])
    simp -implicitDefEqProofs only [Qd, Qb, Qf, OpW, aop, AS.ev, Qc, Qt, Qg, ↓reduceIte, Nat.reduceLT, Nat.reduceEqDiff, QmS, QmT, QmX, QmV, Qm0, QmW]
    repeat (first | ((first | (with_reducible (first | refine Qa fun K E hK hE => ?_ | refine FunW.ret (FunW.call (cm _)) ?_ | refine FunW.ret (FunW.call (cA _)) ?_))); simp -implicitDefEqProofs only [Qd, Qb, Qf, OpW, QQ, aop, undef, AS.ev, Qc, QL, Qn, Qg, Qv, QmZ, AV.Qmr, Qo, QT, Xv, QB, Qnc, Qnd, Qs, Qu, QE, QI, Qne, ↓reduceIte, Qm5, Qm6, Nat.reduceAdd, Nat.reduceLT, Nat.reduceLeDiff, Nat.reduceEqDiff, Qm4, Qnq, QW, QM, aBin, Xn, XE, QmS, QmT, Qnm, QmU, QmX, QmV, Qm7, Qnb, Qnk, Qnj, Qnl, Qm3, Qna, Qm1, Qm9, Q9, Xi, Qno, Qm0, ti24, zi24, sp24, f4, f6, y3, y4]) | (with_reducible (first | refine Qm ?_ | refine QA ?_ | refine QJ ?_)) | ((with_reducible refine hK _ ?_); clear hK) | (refine Qk rfl ?_; simp only [↓reduceIte, QmW]))
    simp -implicitDefEqProofs only [Qg, Qo, QB, ↓reduceIte, Qm5, Qm6, Nat.reduceAdd, Nat.reduceEqDiff, Qm4, Qnq, QG, QH, QmS, QmY, ti24, QG, QH, f4, QN, Qp, Qw, Qm2]
    exact Xa (r := .agg [.i 2, .i 0, .v (.string (mkB ((c :: r2).takeWhile isW))), .sl 4 (avs []) none]) (r' := (T.mk 2 0 (mkB ((c :: r2).takeWhile isW)) []).av) (Q := fun v h' => DQ sb h j (.mk 2 0 (mkB ((c :: r2).takeWhile isW)) [], QV ((c :: r2).dropWhile isW), 7) (.ret v) h') (ZM _ _ _ _) (.keep (T.Qmu _ (T.mk 2 0 (mkB ((c :: r2).takeWhile isW)) []))) ⟨rfl, rfl⟩
theorem Ql7 {ex : List UInt8 → RT} {N : Nat} (H : Sdr sb 50 ex N) (hS : Sf ex) (hN : N ≤ 1000000) (hl : r.length < N + 1) (h1 : isD c = false) (h2 : ¬ (c.toNat = 45 ∧ headD r2 = true)) (h5 : c.toNat = 40) : Xf Tryz.prog 117 [.ptr j 0 0] (hs h j (rr sb r 0)) (DQ sb h j (Zu ex r)) := by
  have f1 := fun x => Xw h j x
  have f2 := Yh hj sb
  have f3 := fun q e r2 e2 => Y0 hj sb q e r2 e2
  have f4 := fun x L => Yg (h := h) (i := j) x L
  have f5 := fun x L k => Qaa (h := h) (i := j) x L k
  have f6 := fun x y L => X5 (h := h) (i := j) x y L
  have f7 := fun x y L k => YQ (h := h) (i := j) x y L k
  have z0 : ((0 : Int) != 0) = false := rfl
  have cn := fun L => Yq hb hr hj L
  have hsS := hr.skip
  rw [show nx r = c.toNat by rw [nx, hsk], hsk] at cn
  rw [hsk] at hsS
  have hlt := Xe hsk
  have hs2 := hsS.tail
  have hw := Y4 hsS hb
  have cd := fun L => XM hb hsS hj (c :: r2) 0 L
  have cd2 := fun L => XM hb hs2 hj (c :: r2) 0 L
  have cl := fun L => YO hb hsS hj (c :: r2) 0 L
  simp only [headD, Qbv] at cd cl
  rw [h1] at cd
  have y1 : (((c.toNat : Nat) : Int) == 45) = true → headD r2 = false := fun e => by
    cases h : headD r2 with
    | true => exact absurd ⟨by have := beq_iff_eq.1 e; omega, h⟩ h2
    | false => rfl
  have y2 : (((c.toNat : Nat) : Int) == 45) = false := by simp; omega
  have y3 : ¬ ((c.toNat : Nat) : Int) ≥ 97 := by omega
  have y5 : (((c.toNat : Nat) : Int) == 40) = true := by simp [h5]
  have h4 : isL c = false := by rw [isL, decide_eq_false (by omega)]
  rw [h4] at cl
  have e5 : Zu ex r = if (ex r2).2.2 ≠ 0 then (zT, QV (ex r2).2.1, (ex r2).2.2) else match QV (ex r2).2.1 with
      | [] => (zT, [], 16)
      | d :: r4 => if d.toNat = 41 then ((ex r2).1, r4, 0) else (zT, d :: r4, 16) := by
    rw [Zu, hsk]; simp only; rw [if_neg (by rw [h1]; decide), if_neg h2, if_neg (by omega), if_neg (by rw [h4]; decide), if_pos h5]; rfl
  have cE := fun L => H.L hs2 (by omega) hj L
  have hS2 : Suf sb (ex r2).2.1 := (hS r2).trans hs2
  rw [e5]
  generalize ex r2 = X at *
  obtain ⟨t, q3, e⟩ := X
  simp only at hS2 cE ⊢
  by_cases he : e ≠ 0
  · rw [if_pos he]
    have cn2 := fun L => QaM hb he hS2 hj L
    have cf := fun L => (Qdq (s := sb) (QV q3) he 16 j).app hj L
    have y6 : ((0 : Int) != 41) = true := rfl
    refine Qe Tryz.func117 rfl Tryz.call117 Tryz.ntmps117 (congrArg Array.toList Tryz.results117) (by simp) ?_
    iterate 10 (try (first | ((first | (with_reducible (first | refine Qa fun K E hK hE => ?_ | refine FunW.ret (FunW.call (cn _)) ?_))); simp -implicitDefEqProofs only [Qd, Qb, Qf, OpW, QQ, aop, undef, AS.ev, Qc, Qn, Qg, Qv, QmZ, AV.Qmr, Qo, Qnc, Qnd, Qs, Qu, QE, Qne, ↓reduceIte, Qm5, Qm6, Nat.reduceAdd, Nat.reduceLT, Nat.reduceEqDiff, Qm4, Ql, QG, QH, aBin, QmS, QmT, QmU, Qm7, Qnb, Q2, QnD, zi24, ti38, XI, QC, f1, f2]) | (with_reducible (first | refine Qi fun K hK => ?_ | refine Qq ?_)) | ((with_reducible refine hK _ ?_); clear hK) | (refine Qk rfl ?_; simp only [↓reduceIte, QmW])))
    (with_reducible refine Qa fun K E hK hE => ?_)
    (try simp only [Qnt]); refine Qy 6 (fun K1 hK1 => ?_); simp -implicitDefEqProofs only [Qb, Qf, OpW, aop, undef, AS.ev, Qc, Qg, Qv, QmZ, Qo, ↓reduceIte, Nat.reduceLT, Nat.reduceEqDiff, Qm4, Ql, QG, QH, QmS, QmT, QmU, Qm7, Qnb, Qm3, Qna, ti3, Xl, QC, f2]; (repeat ((((with_reducible refine FunW.ret (FunW.call (cd _)) ?_)); simp -implicitDefEqProofs only [Qd, QQ, Qc, Nat.reduceLT]))); refine hK1 _ ?_; clear hK1
    (try simp only [Qm1, Qm9]); refine Qy 4 (fun K1 hK1 => ?_); simp -implicitDefEqProofs only [Qd, Qb, Qf, OpW, aop, AS.ev, Qc, Qn, Qg, ↓reduceIte, Nat.reduceLT, Nat.reduceEqDiff, aBin, QmS, QmT, QmU, QmX, QmV, Qm3, Qna, QR, Qm0, y2]; refine hK1 _ ?_; clear hK1
    (try simp only [Qm1, Qm9]); refine Qy 7 (fun K1 hK1 => ?_); simp -implicitDefEqProofs only [Qd, Qb, Qf, undef, Qc, Qg, ↓reduceIte, Nat.reduceLT, Nat.reduceEqDiff, QmS, QmT, QmX, QmV, Qm3, Qna, beq_true]; (repeat ((((with_reducible refine Qa fun K E hK hE => ?_)); simp -implicitDefEqProofs only [Qd, Qb, Qf, OpW, QQ, aop, undef, ZB, Qny, Qnz, QaA, Y7, ZG, AS.ev, Qc, QL, Qn, Qt, QO, XG, ZI, XQ, X7, Xh, ZH, Qg, Qv, QmZ, Qni, AV.Qmr, Qo, QT, Xv, YN, Xj, YI, Y6, Za, YA, QB, Q7, Yz, YK, Yu, YL, Zb, Y8, YE, Qnc, Qnd, Qs, Yk, Qu, QE, YG, XH, XL, XD, QI, YD, Xq, YB, Y5, Y9, YC, Qne, QnB, QnC, Qnf, Qng, ↓reduceIte, Qm5, Qm6, Nat.reduceAdd, Nat.reduceLT, Nat.reduceLeDiff, Nat.reduceEqDiff, Nat.reduceSub, Nat.reduceMul, Qm4, Qnh, Qnr, Qns, Qnq, Xz, XT, Ql, QG, QH, QW, QM, aBin, Xs, Xn, XE, Q0, hget, Ym, hset, hlen, happ, QmS, QmT, QnI, Qnm, Qnn, QmU, Qnx, QmX, Qnw, QmY, Qnt, QmV, Qm7, Qnb, Qnk, Qnj, Qnl, Qm3, Qna, Qm1, Qm9, QR, Q2, Q9, Xi, XK, Xp, QY, Yw, goInt, Qno, Qnp, Qm0, QnD, Qnv, Int.toNat_zero, Int.toNat_one, Qnu, QnG, QnH, QnE, QmW, QnA, beq_true, beq_false, rng0, rng1, rng2, rng3, rng4, rng5, rng6, rng7, rng8, Xk, Nat.reducePow, Nat.zero_le, Nat.zero_mul, T.Qmp, T.Qmq, QK, X6, ti0, zi0, ti3, zi3, un3, ti4, zi4, un4, ti5, zi5, un5, ti9, ei9, zi9, un9, ti22, ei22, ai22, zi22, un22, ti24, Xu, XF, XA, Xx, zi24, sp24, ti38, zi38, un38, ti78, zi78, un78, ti80, Xm, Xl, XI, zi80, sp80, QcY, QnF, Int.sub_zero, QaG, QC, f1, f2, f4, f6, z0, y2]))); refine hK1 _ ?_; clear hK1
    (try simp only [Qm1, Qm9])
    simp -implicitDefEqProofs only [Qd, Qb, Qf, OpW, aop, AS.ev, Qc, Qt, Qg, ↓reduceIte, Nat.reduceLT, Nat.reduceEqDiff, QmS, QmT, QmX, QmV, Qm0, QmW]
    repeat (first | ((first | (with_reducible (first | refine Qa fun K E hK hE => ?_ | refine FunW.ret (FunW.call (cl _)) ?_ | refine FunW.ret (FunW.call (cE _)) ?_ | refine FunW.ret (FunW.call (cn2 _)) ?_ | refine FunW.ret (FunW.call (cf _)) ?_))); simp -implicitDefEqProofs only [Qd, Qb, Qf, OpW, QQ, aop, undef, AS.ev, Qc, QL, Qn, Qt, Qg, Qv, QmZ, AV.Qmr, Qo, QT, QB, Q7, Qnc, Qnd, Qs, Qu, QE, QI, Qne, ↓reduceIte, Qm5, Qm6, Nat.reduceAdd, Nat.reduceLT, Nat.reduceLeDiff, Nat.reduceEqDiff, Qm4, Qnq, Ql, QG, QH, QW, QM, aBin, hlen, happ, QmS, QmT, Qnm, Qnn, QmU, QmX, QmV, Qm7, Qnb, Qnk, Qnj, Qm3, Qna, Qm1, Qm9, QR, Q2, Xi, XK, Qnp, QmW, beq_true, T.Qmp, T.Qmq, ti3, ti24, zi24, Xl, QC, f1, f2, f4, f6, f3, f5, f7, hw, y3, y5, y6, T.Qmp, T.Qmq]) | (with_reducible (first | refine Qi fun K hK => ?_ | refine Qm ?_ | refine QA ?_ | refine QJ ?_)) | ((with_reducible refine hK _ ?_); clear hK) | (refine Qk rfl ?_; simp only [↓reduceIte, QmW]))
    simp -implicitDefEqProofs only [Qg, ↓reduceIte, Qm5, Qm6, Nat.reduceAdd, Nat.reduceEqDiff, Qm4, Qnq, QG, QH, QmS, QmY, T.Qmp, T.Qmq, ti24, QG, QH, f4, T.Qmp, T.Qmq, QN, Qp, Qw, Qm2]
    exact Zo
  · obtain rfl : e = 0 := by
      apply Classical.byContradiction; intro h; exact he h
    rw [if_neg he]
    have cn2 := fun L => Yq hb hS2 hj L
    cases hsk3 : QV q3 with
    | nil =>
      rw [show nx q3 = 0 by rw [nx, hsk3], hsk3] at cn2
      have cf := fun L => (Y3 (s := sb) [] 16 j).app hj L
      have y6 : ((0 : Int) != 41) = true := rfl
      have y7 : (((0 : Nat) : Int) != 41) = true := rfl
      refine Qe Tryz.func117 rfl Tryz.call117 Tryz.ntmps117 (congrArg Array.toList Tryz.results117) (by simp) ?_
      iterate 10 (try (first | ((first | (with_reducible (first | refine Qa fun K E hK hE => ?_ | refine FunW.ret (FunW.call (cn _)) ?_))); simp -implicitDefEqProofs only [Qd, Qb, Qf, OpW, QQ, aop, undef, AS.ev, Qc, Qn, Qg, Qv, QmZ, AV.Qmr, Qo, Qnc, Qnd, Qs, Qu, QE, Qne, ↓reduceIte, Qm5, Qm6, Nat.reduceAdd, Nat.reduceLT, Nat.reduceEqDiff, Qm4, Ql, QG, QH, aBin, QmS, QmT, QmU, Qm7, Qnb, Q2, QnD, zi24, ti38, XI, QC, f1, f2]) | (with_reducible (first | refine Qi fun K hK => ?_ | refine Qq ?_)) | ((with_reducible refine hK _ ?_); clear hK) | (refine Qk rfl ?_; simp only [↓reduceIte, QmW])))
      (with_reducible refine Qa fun K E hK hE => ?_)
      (try simp only [Qnt]); refine Qy 6 (fun K1 hK1 => ?_); simp -implicitDefEqProofs only [Qb, Qf, OpW, aop, undef, AS.ev, Qc, Qg, Qv, QmZ, Qo, ↓reduceIte, Nat.reduceLT, Nat.reduceEqDiff, Qm4, Ql, QG, QH, QmS, QmT, QmU, Qm7, Qnb, Qm3, Qna, ti3, Xl, QC, f2]; (repeat ((((with_reducible refine FunW.ret (FunW.call (cd _)) ?_)); simp -implicitDefEqProofs only [Qd, QQ, Qc, Nat.reduceLT]))); refine hK1 _ ?_; clear hK1
      (try simp only [Qm1, Qm9]); refine Qy 4 (fun K1 hK1 => ?_); simp -implicitDefEqProofs only [Qd, Qb, Qf, OpW, aop, AS.ev, Qc, Qn, Qg, ↓reduceIte, Nat.reduceLT, Nat.reduceEqDiff, aBin, QmS, QmT, QmU, QmX, QmV, Qm3, Qna, QR, Qm0, y2]; refine hK1 _ ?_; clear hK1
      (try simp only [Qm1, Qm9]); refine Qy 7 (fun K1 hK1 => ?_); simp -implicitDefEqProofs only [Qd, Qb, Qf, undef, Qc, Qg, ↓reduceIte, Nat.reduceLT, Nat.reduceEqDiff, QmS, QmT, QmX, QmV, Qm3, Qna, beq_true]; (repeat ((((with_reducible refine Qa fun K E hK hE => ?_)); simp -implicitDefEqProofs only [Qd, Qb, Qf, OpW, QQ, aop, undef, ZB, Qny, Qnz, QaA, Y7, ZG, AS.ev, Qc, QL, Qn, Qt, QO, XG, ZI, XQ, X7, Xh, ZH, Qg, Qv, QmZ, Qni, AV.Qmr, Qo, QT, Xv, YN, Xj, YI, Y6, Za, YA, QB, Q7, Yz, YK, Yu, YL, Zb, Y8, YE, Qnc, Qnd, Qs, Yk, Qu, QE, YG, XH, XL, XD, QI, YD, Xq, YB, Y5, Y9, YC, Qne, QnB, QnC, Qnf, Qng, ↓reduceIte, Qm5, Qm6, Nat.reduceAdd, Nat.reduceLT, Nat.reduceLeDiff, Nat.reduceEqDiff, Nat.reduceSub, Nat.reduceMul, Qm4, Qnh, Qnr, Qns, Qnq, Xz, XT, Ql, QG, QH, QW, QM, aBin, Xs, Xn, XE, Q0, hget, Ym, hset, hlen, happ, QmS, QmT, QnI, Qnm, Qnn, QmU, Qnx, QmX, Qnw, QmY, Qnt, QmV, Qm7, Qnb, Qnk, Qnj, Qnl, Qm3, Qna, Qm1, Qm9, QR, Q2, Q9, Xi, XK, Xp, QY, Yw, goInt, Qno, Qnp, Qm0, QnD, Qnv, Int.toNat_zero, Int.toNat_one, Qnu, QnG, QnH, QnE, QmW, QnA, beq_true, beq_false, rng0, rng1, rng2, rng3, rng4, rng5, rng6, rng7, rng8, Xk, Nat.reducePow, Nat.zero_le, Nat.zero_mul, T.Qmp, T.Qmq, QK, X6, ti0, zi0, ti3, zi3, un3, ti4, zi4, un4, ti5, zi5, un5, ti9, ei9, zi9, un9, ti22, ei22, ai22, zi22, un22, ti24, Xu, XF, XA, Xx, zi24, sp24, ti38, zi38, un38, ti78, zi78, un78, ti80, Xm, Xl, XI, zi80, sp80, QcY, QnF, Int.sub_zero, QaG, QC, f1, f2, f4, f6, z0, y2]))); refine hK1 _ ?_; clear hK1
      (try simp only [Qm1, Qm9])
      simp -implicitDefEqProofs only [Qd, Qb, Qf, OpW, aop, AS.ev, Qc, Qt, Qg, ↓reduceIte, Nat.reduceLT, Nat.reduceEqDiff, QmS, QmT, QmX, QmV, Qm0, QmW]
      repeat (first | ((first | (with_reducible (first | refine Qa fun K E hK hE => ?_ | refine FunW.ret (FunW.call (cl _)) ?_ | refine FunW.ret (FunW.call (cE _)) ?_ | refine FunW.ret (FunW.call (cn2 _)) ?_ | refine FunW.ret (FunW.call (cf _)) ?_))); simp -implicitDefEqProofs only [Qd, Qb, Qf, OpW, QQ, aop, undef, AS.ev, Qc, QL, Qn, Qt, Qg, Qv, QmZ, AV.Qmr, Qo, QT, QB, Q7, Qnc, Qnd, Qs, Qu, QE, QI, Qne, ↓reduceIte, Qm5, Qm6, Nat.reduceAdd, Nat.reduceLT, Nat.reduceLeDiff, Nat.reduceEqDiff, Qm4, Qnq, Ql, QG, QH, QW, QM, aBin, hlen, happ, QmS, QmT, Qnm, Qnn, QmU, QmX, QmV, Qm7, Qnb, Qnk, Qnj, Qm3, Qna, Qm1, Qm9, QR, Q2, Xi, XK, Qnp, QnE, QmW, beq_true, T.Qmp, T.Qmq, ti3, ti24, zi24, Xl, QC, f1, f2, f4, f6, f3, f5, f7, hw, y3, y5, y6, T.Qmp, T.Qmq]) | (with_reducible (first | refine Qi fun K hK => ?_ | refine Qm ?_ | refine QA ?_ | refine QJ ?_)) | ((with_reducible refine hK _ ?_); clear hK) | (refine Qk rfl ?_; simp only [↓reduceIte, QmW]))
      simp -implicitDefEqProofs only [Qg, ↓reduceIte, Qm5, Qm6, Nat.reduceAdd, Nat.reduceEqDiff, Qm4, Qnq, QG, QH, QmS, QmY, T.Qmp, T.Qmq, ti24, QG, QH, f4, T.Qmp, T.Qmq, QN, Qp, Qw, Qm2]
      exact Zo
    | cons d r4 =>
      rw [show nx q3 = d.toNat by rw [nx, hsk3], hsk3] at cn2
      have hs4 : Suf sb (d :: r4) := hsk3 ▸ Suf.skip (s := sb) hS2
      have hw4 := Y4 hs4 hb
      simp only
      by_cases h41 : d.toNat = 41
      · rw [if_pos h41]
        have y6 : (((d.toNat : Nat) : Int) != 41) = false := by simp [h41]
        refine Qe Tryz.func117 rfl Tryz.call117 Tryz.ntmps117 (congrArg Array.toList Tryz.results117) (by simp) ?_
        iterate 10 (try (first | ((first | (with_reducible (first | refine Qa fun K E hK hE => ?_ | refine FunW.ret (FunW.call (cn _)) ?_))); simp -implicitDefEqProofs only [Qd, Qb, Qf, OpW, QQ, aop, undef, AS.ev, Qc, Qn, Qg, Qv, QmZ, AV.Qmr, Qo, Qnc, Qnd, Qs, Qu, QE, Qne, ↓reduceIte, Qm5, Qm6, Nat.reduceAdd, Nat.reduceLT, Nat.reduceEqDiff, Qm4, Ql, QG, QH, aBin, QmS, QmT, QmU, Qm7, Qnb, Q2, QnD, zi24, ti38, XI, QC, f1, f2]) | (with_reducible (first | refine Qi fun K hK => ?_ | refine Qq ?_)) | ((with_reducible refine hK _ ?_); clear hK) | (refine Qk rfl ?_; simp only [↓reduceIte, QmW])))
        (with_reducible refine Qa fun K E hK hE => ?_)
        (try simp only [Qnt]); refine Qy 6 (fun K1 hK1 => ?_); simp -implicitDefEqProofs only [Qb, Qf, OpW, aop, undef, AS.ev, Qc, Qg, Qv, QmZ, Qo, ↓reduceIte, Nat.reduceLT, Nat.reduceEqDiff, Qm4, Ql, QG, QH, QmS, QmT, QmU, Qm7, Qnb, Qm3, Qna, ti3, Xl, QC, f2]; (repeat ((((with_reducible refine FunW.ret (FunW.call (cd _)) ?_)); simp -implicitDefEqProofs only [Qd, QQ, Qc, Nat.reduceLT]))); refine hK1 _ ?_; clear hK1
        (try simp only [Qm1, Qm9]); refine Qy 4 (fun K1 hK1 => ?_); simp -implicitDefEqProofs only [Qd, Qb, Qf, OpW, aop, AS.ev, Qc, Qn, Qg, ↓reduceIte, Nat.reduceLT, Nat.reduceEqDiff, aBin, QmS, QmT, QmU, QmX, QmV, Qm3, Qna, QR, Qm0, y2]; refine hK1 _ ?_; clear hK1
        (try simp only [Qm1, Qm9]); refine Qy 7 (fun K1 hK1 => ?_); simp -implicitDefEqProofs only [Qd, Qb, Qf, undef, Qc, Qg, ↓reduceIte, Nat.reduceLT, Nat.reduceEqDiff, QmS, QmT, QmX, QmV, Qm3, Qna, beq_true]; (repeat ((((with_reducible refine Qa fun K E hK hE => ?_)); simp -implicitDefEqProofs only [Qd, Qb, Qf, OpW, QQ, aop, undef, ZB, Qny, Qnz, QaA, Y7, ZG, AS.ev, Qc, QL, Qn, Qt, QO, XG, ZI, XQ, X7, Xh, ZH, Qg, Qv, QmZ, Qni, AV.Qmr, Qo, QT, Xv, YN, Xj, YI, Y6, Za, YA, QB, Q7, Yz, YK, Yu, YL, Zb, Y8, YE, Qnc, Qnd, Qs, Yk, Qu, QE, YG, XH, XL, XD, QI, YD, Xq, YB, Y5, Y9, YC, Qne, QnB, QnC, Qnf, Qng, ↓reduceIte, Qm5, Qm6, Nat.reduceAdd, Nat.reduceLT, Nat.reduceLeDiff, Nat.reduceEqDiff, Nat.reduceSub, Nat.reduceMul, Qm4, Qnh, Qnr, Qns, Qnq, Xz, XT, Ql, QG, QH, QW, QM, aBin, Xs, Xn, XE, Q0, hget, Ym, hset, hlen, happ, QmS, QmT, QnI, Qnm, Qnn, QmU, Qnx, QmX, Qnw, QmY, Qnt, QmV, Qm7, Qnb, Qnk, Qnj, Qnl, Qm3, Qna, Qm1, Qm9, QR, Q2, Q9, Xi, XK, Xp, QY, Yw, goInt, Qno, Qnp, Qm0, QnD, Qnv, Int.toNat_zero, Int.toNat_one, Qnu, QnG, QnH, QnE, QmW, QnA, beq_true, beq_false, rng0, rng1, rng2, rng3, rng4, rng5, rng6, rng7, rng8, Xk, Nat.reducePow, Nat.zero_le, Nat.zero_mul, T.Qmp, T.Qmq, QK, X6, ti0, zi0, ti3, zi3, un3, ti4, zi4, un4, ti5, zi5, un5, ti9, ei9, zi9, un9, ti22, ei22, ai22, zi22, un22, ti24, Xu, XF, XA, Xx, zi24, sp24, ti38, zi38, un38, ti78, zi78, un78, ti80, Xm, Xl, XI, zi80, sp80, QcY, QnF, Int.sub_zero, QaG, QC, f1, f2, f4, f6, z0, y2]))); refine hK1 _ ?_; clear hK1
        (try simp only [Qm1, Qm9])
        simp -implicitDefEqProofs only [Qd, Qb, Qf, OpW, aop, AS.ev, Qc, Qt, Qg, ↓reduceIte, Nat.reduceLT, Nat.reduceEqDiff, QmS, QmT, QmX, QmV, Qm0, QmW]
        repeat (first | ((first | (with_reducible (first | refine Qa fun K E hK hE => ?_ | refine FunW.ret (FunW.call (cl _)) ?_ | refine FunW.ret (FunW.call (cE _)) ?_ | refine FunW.ret (FunW.call (cn2 _)) ?_))); simp -implicitDefEqProofs only [Qd, Qb, Qf, OpW, QQ, aop, undef, AS.ev, Qc, QL, Qn, Qt, Qg, Qv, QmZ, AV.Qmr, Qo, QT, QB, Q7, Qnc, Qnd, Qs, Qu, QE, QI, Qne, ↓reduceIte, Qm5, Qm6, Nat.reduceAdd, Nat.reduceLT, Nat.reduceLeDiff, Nat.reduceEqDiff, Qm4, Qnq, Ql, QG, QH, QW, QM, aBin, hlen, happ, QmS, QmT, Qnm, Qnn, QmU, QmX, QmV, Qm7, Qnb, Qnk, Qnj, Qm3, Qna, Qm1, Qm9, QR, Q2, Xi, XK, Qnp, QmW, beq_true, T.Qmp, T.Qmq, ti3, ti24, zi24, Xl, QC, f1, f2, f4, f6, f3, f5, f7, hw, hw4, y3, y5, y6, T.Qmp, T.Qmq]) | (with_reducible (first | refine Qi fun K hK => ?_ | refine Qm ?_ | refine QD ?_ | refine Qj ?_ | refine QA ?_ | refine QJ ?_)) | ((with_reducible refine hK _ ?_); clear hK) | (refine Qk rfl ?_; simp only [↓reduceIte, QmW]))
        simp -implicitDefEqProofs only [Qg, ↓reduceIte, Qm5, Qm6, Nat.reduceAdd, Nat.reduceEqDiff, Qm4, Qnq, QG, QH, QmS, QmY, T.Qmp, T.Qmq, ti24, QG, QH, f4, T.Qmp, T.Qmq, QN, Qp, Qw, Qm2]
        exact Zo
      · rw [if_neg h41]
        have y6 : (((d.toNat : Nat) : Int) != 41) = true := by simpa using fun e => h41 (by omega)
        have cf := fun L => (Y3 (s := sb) (d :: r4) 16 j).app hj L
        refine Qe Tryz.func117 rfl Tryz.call117 Tryz.ntmps117 (congrArg Array.toList Tryz.results117) (by simp) ?_
        iterate 10 (try (first | ((first | (with_reducible (first | refine Qa fun K E hK hE => ?_ | refine FunW.ret (FunW.call (cn _)) ?_))); simp -implicitDefEqProofs only [Qd, Qb, Qf, OpW, QQ, aop, undef, AS.ev, Qc, Qn, Qg, Qv, QmZ, AV.Qmr, Qo, Qnc, Qnd, Qs, Qu, QE, Qne, ↓reduceIte, Qm5, Qm6, Nat.reduceAdd, Nat.reduceLT, Nat.reduceEqDiff, Qm4, Ql, QG, QH, aBin, QmS, QmT, QmU, Qm7, Qnb, Q2, QnD, zi24, ti38, XI, QC, f1, f2]) | (with_reducible (first | refine Qi fun K hK => ?_ | refine Qq ?_)) | ((with_reducible refine hK _ ?_); clear hK) | (refine Qk rfl ?_; simp only [↓reduceIte, QmW])))
        (with_reducible refine Qa fun K E hK hE => ?_)
        (try simp only [Qnt]); refine Qy 6 (fun K1 hK1 => ?_); simp -implicitDefEqProofs only [Qb, Qf, OpW, aop, undef, AS.ev, Qc, Qg, Qv, QmZ, Qo, ↓reduceIte, Nat.reduceLT, Nat.reduceEqDiff, Qm4, Ql, QG, QH, QmS, QmT, QmU, Qm7, Qnb, Qm3, Qna, ti3, Xl, QC, f2]; (repeat ((((with_reducible refine FunW.ret (FunW.call (cd _)) ?_)); simp -implicitDefEqProofs only [Qd, QQ, Qc, Nat.reduceLT]))); refine hK1 _ ?_; clear hK1
        (try simp only [Qm1, Qm9]); refine Qy 4 (fun K1 hK1 => ?_); simp -implicitDefEqProofs only [Qd, Qb, Qf, OpW, aop, AS.ev, Qc, Qn, Qg, ↓reduceIte, Nat.reduceLT, Nat.reduceEqDiff, aBin, QmS, QmT, QmU, QmX, QmV, Qm3, Qna, QR, Qm0, y2]; refine hK1 _ ?_; clear hK1
        (try simp only [Qm1, Qm9]); refine Qy 7 (fun K1 hK1 => ?_); simp -implicitDefEqProofs only [Qd, Qb, Qf, undef, Qc, Qg, ↓reduceIte, Nat.reduceLT, Nat.reduceEqDiff, QmS, QmT, QmX, QmV, Qm3, Qna, beq_true]; (repeat ((((with_reducible refine Qa fun K E hK hE => ?_)); simp -implicitDefEqProofs only [Qd, Qb, Qf, OpW, QQ, aop, undef, ZB, Qny, Qnz, QaA, Y7, ZG, AS.ev, Qc, QL, Qn, Qt, QO, XG, ZI, XQ, X7, Xh, ZH, Qg, Qv, QmZ, Qni, AV.Qmr, Qo, QT, Xv, YN, Xj, YI, Y6, Za, YA, QB, Q7, Yz, YK, Yu, YL, Zb, Y8, YE, Qnc, Qnd, Qs, Yk, Qu, QE, YG, XH, XL, XD, QI, YD, Xq, YB, Y5, Y9, YC, Qne, QnB, QnC, Qnf, Qng, ↓reduceIte, Qm5, Qm6, Nat.reduceAdd, Nat.reduceLT, Nat.reduceLeDiff, Nat.reduceEqDiff, Nat.reduceSub, Nat.reduceMul, Qm4, Qnh, Qnr, Qns, Qnq, Xz, XT, Ql, QG, QH, QW, QM, aBin, Xs, Xn, XE, Q0, hget, Ym, hset, hlen, happ, QmS, QmT, QnI, Qnm, Qnn, QmU, Qnx, QmX, Qnw, QmY, Qnt, QmV, Qm7, Qnb, Qnk, Qnj, Qnl, Qm3, Qna, Qm1, Qm9, QR, Q2, Q9, Xi, XK, Xp, QY, Yw, goInt, Qno, Qnp, Qm0, QnD, Qnv, Int.toNat_zero, Int.toNat_one, Qnu, QnG, QnH, QnE, QmW, QnA, beq_true, beq_false, rng0, rng1, rng2, rng3, rng4, rng5, rng6, rng7, rng8, Xk, Nat.reducePow, Nat.zero_le, Nat.zero_mul, T.Qmp, T.Qmq, QK, X6, ti0, zi0, ti3, zi3, un3, ti4, zi4, un4, ti5, zi5, un5, ti9, ei9, zi9, un9, ti22, ei22, ai22, zi22, un22, ti24, Xu, XF, XA, Xx, zi24, sp24, ti38, zi38, un38, ti78, zi78, un78, ti80, Xm, Xl, XI, zi80, sp80, QcY, QnF, Int.sub_zero, QaG, QC, f1, f2, f4, f6, z0, y2]))); refine hK1 _ ?_; clear hK1
        (try simp only [Qm1, Qm9])
        simp -implicitDefEqProofs only [Qd, Qb, Qf, OpW, aop, AS.ev, Qc, Qt, Qg, ↓reduceIte, Nat.reduceLT, Nat.reduceEqDiff, QmS, QmT, QmX, QmV, Qm0, QmW]
        repeat (first | ((first | (with_reducible (first | refine Qa fun K E hK hE => ?_ | refine FunW.ret (FunW.call (cl _)) ?_ | refine FunW.ret (FunW.call (cE _)) ?_ | refine FunW.ret (FunW.call (cn2 _)) ?_ | refine FunW.ret (FunW.call (cf _)) ?_))); simp -implicitDefEqProofs only [Qd, Qb, Qf, OpW, QQ, aop, undef, AS.ev, Qc, QL, Qn, Qt, Qg, Qv, QmZ, AV.Qmr, Qo, QT, QB, Q7, Qnc, Qnd, Qs, Qu, QE, QI, Qne, ↓reduceIte, Qm5, Qm6, Nat.reduceAdd, Nat.reduceLT, Nat.reduceLeDiff, Nat.reduceEqDiff, Qm4, Qnq, Ql, QG, QH, QW, QM, aBin, hlen, happ, QmS, QmT, Qnm, Qnn, QmU, QmX, QmV, Qm7, Qnb, Qnk, Qnj, Qm3, Qna, Qm1, Qm9, QR, Q2, Xi, XK, Qnp, QmW, beq_true, T.Qmp, T.Qmq, ti3, ti24, zi24, Xl, QC, f1, f2, f4, f6, f3, f5, f7, hw, y3, y5, y6, T.Qmp, T.Qmq]) | (with_reducible (first | refine Qi fun K hK => ?_ | refine Qm ?_ | refine QA ?_ | refine QJ ?_)) | ((with_reducible refine hK _ ?_); clear hK) | (refine Qk rfl ?_; simp only [↓reduceIte, QmW]))
        simp -implicitDefEqProofs only [Qg, ↓reduceIte, Qm5, Qm6, Nat.reduceAdd, Nat.reduceEqDiff, Qm4, Qnq, QG, QH, QmS, QmY, T.Qmp, T.Qmq, ti24, QG, QH, f4, T.Qmp, T.Qmq, QN, Qp, Qw, Qm2]
        exact Zo
end
theorem Qjl {sb : ByteArray} (hb : sb.size ≤ 1000000) {ex : List UInt8 → RT} {N : Nat} (H : Sdr sb 50 ex N) (hS : Sf ex) (hN : N ≤ 1000000) : Sdr sb 117 (Zu ex) (N + 1) := by
  intro r hr hl h j hj
  cases hsk : QV r with
  | nil => exact Qmd hb hr hj ex hsk
  | cons c r2 =>
    cases h1 : isD c with
    | true => exact Qme hb hr hj hsk ex h1
    | false =>
      by_cases h2 : c.toNat = 45 ∧ headD r2 = true
      · exact QlR hb hr hj hsk ex h1 h2
      · by_cases h3 : 97 ≤ c.toNat ∧ c.toNat ≤ 122
        · exact Qmg hb hr hj hsk H hS hN hl h1 h2 h3
        · cases h4 : isL c with
          | true => exact QlV hb hr hj hsk ex h1 h2 h3 h4
          | false =>
            by_cases h5 : c.toNat = 40
            · exact Ql7 hb hr hj hsk H hS hN hl h1 h2 h5
            · exact QlU hb hr hj hsk ex h1 h2 h3 h4 h5
end Go.Proofs.YtehjodmnajgdgaaGreatDoor.Ab
set_option maxRecDepth 4000
namespace Go.Proofs.YtehjodmnajgdgaaGreatDoor.Ab
open Go.Proofs
theorem QhF (c : UInt8) : ofB (mkB [c]) = if c.toNat = 43 ∨ c.toNat = 45 then 1 else if c.toNat = 42 ∨ c.toNat = 47 ∨ c.toNat = 37 then 2 else 0 := by
 have e : ∀ d : UInt8, ((mkB [c]).toList == ({ data := #[d] } : ByteArray).toList) = decide (c.toNat = d.toNat) := fun d => by
  rw [Lib.toList_data, Lib.toList_data]
  by_cases h : c = d
  ·subst h; simp [mkB]
  ·rw [decide_eq_false (fun h2 => h (UInt8.toNat_inj.1 h2)), beq_eq_false_iff_ne]
   intro h2; exact h (by simpa [mkB] using h2)
 rw [ofB, e 43, e 45, e 42, e 47, e 37]
 simp only [show (43 : UInt8).toNat = 43 from rfl, show (45 : UInt8).toNat = 45 from rfl, show (42 : UInt8).toNat = 42 from rfl, show (47 : UInt8).toNat = 47 from rfl, show (37 : UInt8).toNat = 37 from rfl]
 by_cases h1 : c.toNat = 43
 ·simp [h1]
 by_cases h2 : c.toNat = 45
 ·simp [h2]
 by_cases h3 : c.toNat = 42
 ·simp [h3]
 by_cases h4 : c.toNat = 47
 ·simp [h4]
 by_cases h5 : c.toNat = 37
 ·simp [h5]
 simp [h1, h2, h3, h4, h5]
theorem QjJ (c : UInt8) (own : Option Nat) (H : AH) : QbF Tryz.prog 67 9 (.sl 1 [.v (.int .u8 ((c.toNat : Nat) : Int))] own) H = some (.v (.string (mkB [c]))) := by
 have hb : QeS Tryz.prog 67 9 = true := by kernel_rfl
 unfold QbF
 rw [hb]
 simp only [ZA, if_true, intsOf, QmU]
 congr 3
 refine QbY ?_
 simp [strOfNums, mkB]
def lk (r : List UInt8) (e : Int) : Nat := if e = 0 then nx r else 0
theorem Qav {sb : ByteArray} (hb : sb.size ≤ 1000000) {r : List UInt8} (hr : Suf sb r) (e : Int) {h : AH} {j : Nat} (hj : j < h.length) (L : AH) :
  Xf Tryz.prog 56 [.ptr j 0 0] (hs h j (rr sb r e) ++ L) fun o h' => o = .ret (.v (.int .u8 (lk r e : Nat))) ∧ h' = hs h j (rr sb (QV r) e) ++ L := by
 by_cases he : e = 0
 ·subst he; exact Yq hb hr hj L
 ·rw [lk, if_neg he]; exact QaM hb he hr hj L
theorem Qkk {sb : ByteArray} (hb : sb.size ≤ 1000000) {g : List UInt8 → RT} {N : Nat} (H : Sdr sb 117 g N) (hS : Sf g) (hN : N ≤ 1000000) : Sdr sb 88 (Qb6 g 2) N := by
 intro r hr hl h j hj
 have f1 := fun x => Xw h j x
 have f2 := Yh hj sb
 have f4 := fun x L => Yg (h := h) (i := j) x L
 have f5 := fun x L k => Qaa (h := h) (i := j) x L k
 have f6 := fun x y L => X5 (h := h) (i := j) x y L
 have f7 := fun x y L k => YQ (h := h) (i := j) x y L k
 have cO := fun L => H.L hr hl hj L
 have hS1 := (hS r).trans hr
 have hS2 := (hS r).length_le
 rw [Qb6]
 generalize g r = X0 at *
 obtain ⟨t0, q0, e0⟩ := X0
 simp only at hS1 hS2 cO ⊢
 have cn := fun L => Qav hb hS1 e0 hj L
 generalize hC : Zv g 2 (q0.length + 1) (t0, q0, e0) = C
 refine Qe Tryz.func88 rfl Tryz.call88 Tryz.ntmps88 (congrArg Array.toList Tryz.results88) (by simp) ?_
 repeat (first | ((first | (with_reducible (first | refine Qa fun K E hK hE => ?_ | refine FunW.ret (FunW.call (cO _)) ?_ | refine FunW.ret (FunW.call (cn _)) ?_))); simp -implicitDefEqProofs only [Qd, Qb, Qf, OpW, QQ, aop, undef, AS.ev, Qc, QL, Qg, Qv, QmZ, AV.Qmr, Qo, QB, Qnc, Qnd, Qs, Qu, QE, QI, Qne, ↓reduceIte, Qm5, Qm6, Nat.reduceAdd, Nat.reduceLT, Nat.reduceEqDiff, Qm4, Qnq, QW, QM, hlen, happ, QmS, QmT, Qnm, Qnn, QmU, Qm7, Qnb, Qnk, Qnj, T.Qmp, T.Qmq, ti24, zi24, f1, f5, f7, T.Qmp, T.Qmq]) | (with_reducible (first | refine Qi fun K hK => ?_ | refine Qq ?_)) | ((with_reducible refine hK _ ?_); clear hK))
 obtain ⟨I, hI⟩ : ∃ I : Nat → AS → Prop, I = fun m' s => ∃ (t : T) (q : List UInt8) (e : Int) (M : Nat), m' = q.length ∧ q.length < M ∧ q.length < N ∧ Suf sb q ∧ Zv g 2 M (t, q, e) = C ∧ s.tm 0 = .ptr j 0 0 ∧ s.tm 2 = .ptr h.length 0 0 ∧ s.tm 3 = .ptr (h.length + 1) 0 0 ∧ s.tm 4 = .v (.int .u8 (lk q e : Nat)) ∧ s.h = hs h j (rr sb (QV q) e) ++ [zT0, .cells 24 4 [t.av]] := ⟨_, rfl⟩; refine XJ I ?_ (m := q0.length) ?_
 ·intro m' s hs; rw [hI] at hs; obtain ⟨tm, hp⟩ := s; dsimp only at hs; obtain ⟨t, q, e, M, rfl, hM, hqN, hq, hC, t0, t2, t3, t4, rfl⟩ := hs
  cases M with
  | zero => exact absurd hM (Nat.not_lt_zero _)
  | succ M =>
   rw [Zv] at hC
   simp only at hC
   by_cases he : e ≠ 0
   ·rw [if_pos he] at hC
    have ev : lk q e = 0 := by rw [lk, if_neg he]
    rw [ev] at t4
    have y1 : (((0 : Nat) : Int) == 42) = false := rfl
    have y2 : (((0 : Nat) : Int) == 47) = false := rfl
    have y3 : (((0 : Nat) : Int) == 37) = false := rfl
    have y4 : ((0 : Int) == 42) = false := rfl
    have y5 : ((0 : Int) == 47) = false := rfl
    have y6 : ((0 : Int) == 37) = false := rfl
    repeat (first | (((with_reducible refine Qa fun K E hK hE => ?_)); simp -implicitDefEqProofs only [Qd, Qb, Qf, OpW, aop, undef, AS.ev, Qc, QL, Qn, Qg, AV.Qmr, Qo, QB, Qnc, Qnd, Qs, Qu, QI, Qne, ↓reduceIte, Qm5, Qm6, Nat.reduceAdd, Nat.reduceLT, Nat.reduceEqDiff, Qm4, Qnq, QG, QH, QW, QM, aBin, QmS, QmT, Qnm, QmU, QmX, QmV, QR, Qm0, QnE, QmW, T.Qmp, T.Qmq, ti24, y4, y5, y6, t2, t3, t4, f4, f5, f6, T.Qmp, T.Qmq]) | (with_reducible (first | refine Qi fun K hK => ?_ | refine Qm ?_ | refine Xb ?_ | refine Qj ?_ | refine Q5 ?_ | refine Q4 ?_)) | ((with_reducible refine hK _ ?_); clear hK) | (clear hK; (with_reducible refine hK _ ?_); clear hK) | (refine Qk rfl ?_; simp only [↓reduceIte, QmW]))
    simp -implicitDefEqProofs only [Qg, ↓reduceIte, Qm5, Qm6, Nat.reduceAdd, Nat.reduceEqDiff, Qm4, Qnq, QG, QH, QmS, QmY, T.Qmp, T.Qmq, ti24, QG, QH, t2, f4, T.Qmp, T.Qmq, QN, Qp, Qw, Qm2]
    rw [← hC]
    exact Zo
   ·obtain rfl : e = 0 := by
     apply Classical.byContradiction; intro h; exact he h
    rw [if_neg he] at hC
    have ev : lk q 0 = nx q := by rw [lk, if_pos rfl]
    rw [ev] at t4
    cases hsk : QV q with
    | nil =>
     rw [hsk] at hC
     rw [show nx q = 0 by rw [nx, hsk]] at t4
     have y1 : (((0 : Nat) : Int) == 42) = false := rfl
     have y2 : (((0 : Nat) : Int) == 47) = false := rfl
     have y3 : (((0 : Nat) : Int) == 37) = false := rfl
     have y4 : ((0 : Int) == 42) = false := rfl
     have y5 : ((0 : Int) == 47) = false := rfl
     have y6 : ((0 : Int) == 37) = false := rfl
     repeat (first | (((with_reducible refine Qa fun K E hK hE => ?_)); simp -implicitDefEqProofs only [Qd, Qb, Qf, OpW, aop, undef, AS.ev, Qc, QL, Qn, Qg, AV.Qmr, Qo, QB, Qnc, Qnd, Qs, Qu, QI, Qne, ↓reduceIte, Qm5, Qm6, Nat.reduceAdd, Nat.reduceLT, Nat.reduceEqDiff, Qm4, Qnq, QG, QH, QW, QM, aBin, QmS, QmT, Qnm, QmU, QmX, QmV, QR, Qm0, QnE, QmW, T.Qmp, T.Qmq, ti24, y4, y5, y6, t2, t3, t4, f4, f5, f6, T.Qmp, T.Qmq]) | (with_reducible (first | refine Qi fun K hK => ?_ | refine Qm ?_ | refine Xb ?_ | refine Qj ?_ | refine Q5 ?_ | refine Q4 ?_)) | ((with_reducible refine hK _ ?_); clear hK) | (clear hK; (with_reducible refine hK _ ?_); clear hK) | (refine Qk rfl ?_; simp only [↓reduceIte, QmW]))
     simp -implicitDefEqProofs only [Qg, ↓reduceIte, Qm5, Qm6, Nat.reduceAdd, Nat.reduceEqDiff, Qm4, Qnq, QG, QH, QmS, QmY, T.Qmp, T.Qmq, ti24, QG, QH, t2, f4, T.Qmp, T.Qmq, QN, Qp, Qw, Qm2]
     rw [← hC]
     exact Zo
    | cons c q2 =>
     rw [hsk] at hC
     simp only at hC
     rw [show nx q = c.toNat by rw [nx, hsk]] at t4
     have hs1 : Suf sb (c :: q2) := hsk ▸ Suf.skip hq
     have hlt := Xe hsk
     have hw := Y4 hs1 hb
     have f3 := fun r2 e2 => Y0 hj sb (c :: q2) 0 r2 e2
     by_cases ho : c.toNat = 42 ∨ c.toNat = 47 ∨ c.toNat = 37
     ·rw [if_pos (by rw [QhF]; rw [if_neg (by omega), if_pos ho])] at hC
      have cE := H.L hs1.tail (by omega) hj [zT0, .cells 24 4 [t.av]]
      have hS3 := (hS q2).trans hs1.tail
      have hS4 := (hS q2).length_le
      generalize g q2 = X at *
      obtain ⟨u, q3, e3⟩ := X
      simp only at hC cE hS3 hS4
      have cn2 := Qav hb hS3 e3 hj [zT0, .cells 24 4 [(T.mk 2 0 (mkB [c]) [t, u]).av]]
      have os := fun own H => QjJ c own H
      have fold : AV.agg [.i 2, .i 0, .v (.string (mkB [c])), .sl 4 [t.av, u.av] none] = (T.mk 2 0 (mkB [c]) [t, u]).av := rfl
      refine Yt (fun s => s.tm 0 = .ptr j 0 0 ∧ s.tm 2 = .ptr h.length 0 0 ∧ s.tm 3 = .ptr (h.length + 1) 0 0 ∧ s.tm 4 = .v (.int .u8 ((c.toNat : Nat) : Int)) ∧ s.h = hs h j (rr sb (c :: q2) 0) ++ [zT0, .cells 24 4 [t.av]]) ?_ ?_
      ·rintro ⟨tm, hp⟩ ⟨t0, t2, t3, t4, hh⟩
       have hh := hh.symm
       dsimp only at t0 t2 t3 t4 hh
       subst hh
       repeat (first | (((with_reducible refine Qa fun K E hK hE => ?_)); simp -implicitDefEqProofs only [Qd, Qb, Qf, OpW, aop, undef, AS.ev, Qc, QL, Qn, Qg, AV.Qmr, Qo, QT, QB, Q7, Qnc, Qnd, Qs, Qne, ↓reduceIte, Qm5, Qm6, Nat.reduceAdd, Nat.reduceLT, Nat.reduceLeDiff, Nat.reduceEqDiff, Qm4, Qnq, Ql, QG, QH, QW, QM, aBin, QmS, QmT, Qnm, QmU, Qnk, Qnj, Qm3, Qna, Qm1, Qm9, XK, QmW, ti3, Xl, QC, t0, f2, f3, hw]) | (with_reducible (first | refine Qi fun K hK => ?_ | refine Qq ?_)) | ((with_reducible refine hK _ ?_); clear hK))
       refine ZT 3 5 [(0, 1), (1, 1), (2, 1), (4, 1)] [(3, 0), (5, 2), (6, 1), (7, 1), (8, 2)] [(5, 2), (3, 0), (6, 1), (7, 1), (8, 2)] mixed rfl (by kernel_rfl) (by kernel_rfl) (by kernel_rfl) (by kernel_rfl) (by kernel_rfl) (by kernel_rfl) fun K hK => ?_
       simp -implicitDefEqProofs only [Q1, QX, Q8, Qf, aop, AS.ev, Qc, Qg, AV.Qmr, QT, Qnc, Qnd, Qs, Qne, ↓reduceIte, Qm5, Qm6, Nat.reduceAdd, Nat.reduceLT, Nat.reduceLeDiff, Nat.reduceEqDiff, Nat.reduceMul, Qm4, Qnq, QG, QH, Q6, QmS, QmT, QmU, QmV, Qm7, Qnb, Qm0, rng1, Xk, Nat.reducePow, T.Qmp, T.Qmq, zi5, ti24, ei67, t0, t3, t4, f5, os]
       refine ⟨?_, ?_⟩
       ·refine XB (FunW.call cE) YX ?_
        simp -implicitDefEqProofs only [Q1, QX, Q8, Qf, aop, undef, AS.ev, Qc, QL, Qn, Qg, AV.Qmr, Qo, QT, Xv, QB, Qnc, Qnd, Qs, Qu, QE, QI, Qne, ↓reduceIte, Qm5, Qm6, Nat.reduceAdd, Nat.reduceLT, Nat.reduceLeDiff, Nat.reduceEqDiff, Nat.reduceMul, Qm4, Qnq, QW, QM, Xn, XE, Q6, QmS, QmT, Qnm, Qnn, QmU, QmV, Qm7, Qnb, Qnk, Qnj, Qnl, Qm3, Qna, Qm1, Qm9, Qm0, rng2, Xk, Nat.reducePow, T.Qmp, T.Qmq, ei22, ti24, zi24, sp24, t3, f5, f7, T.Qmp, T.Qmq]
        repeat (first | ((first | (with_reducible (first | refine Qr fun K E hK hE => ?_ | refine FunW.ret (FunW.call cn2) ?_))); simp -implicitDefEqProofs only [Qd, Qb, Qf, OpW, QQ, aop, AS.ev, Qc, Qg, ↓reduceIte, Nat.reduceLT, Nat.reduceEqDiff, Qm7, Qnb, t0, fold]) | (with_reducible (first | refine Qj ?_ | refine QF ?_)) | ((with_reducible refine hK _ ?_); clear hK))
        refine Yo.mk (m' := q3.length) (by omega) ?_
        rw [hI]
        exact ⟨.mk 2 0 (mkB [c]) [t, u], q3, e3, M, rfl, by omega, by omega, hS3, hC, t0, t2, t3, rfl, rfl⟩
       ·refine XB (FunW.call cE) YX ?_
        simp -implicitDefEqProofs only [Q1, QX, Q8, Qf, aop, undef, AS.ev, Qc, QL, Qn, Qg, AV.Qmr, Qo, QT, Xv, QB, Qnc, Qnd, Qs, Qu, QE, QI, Qne, ↓reduceIte, Qm5, Qm6, Nat.reduceAdd, Nat.reduceLT, Nat.reduceLeDiff, Nat.reduceEqDiff, Nat.reduceMul, Qm4, Qnq, QG, QH, QW, QM, Xn, XE, Q6, QmS, QmT, Qnm, Qnn, QmU, QmV, Qm7, Qnb, Qnk, Qnj, Qnl, Qm3, Qna, Qm1, Qm9, Qm0, rng2, Xk, Nat.reducePow, T.Qmp, T.Qmq, ei22, ti24, zi24, sp24, t3, f5, f7, T.Qmp, T.Qmq]
        repeat (first | ((first | (with_reducible (first | refine Qr fun K E hK hE => ?_ | refine FunW.ret (FunW.call cn2) ?_))); simp -implicitDefEqProofs only [Qd, Qb, Qf, OpW, QQ, aop, AS.ev, Qc, Qg, ↓reduceIte, Nat.reduceLT, Nat.reduceEqDiff, Qm7, Qnb, t0, fold]) | (with_reducible (first | refine Qj ?_ | refine QF ?_)) | ((with_reducible refine hK _ ?_); clear hK))
        refine Yo.mk (m' := q3.length) (by omega) ?_
        rw [hI]
        exact ⟨.mk 2 0 (mkB [c]) [t, u], q3, e3, M, rfl, by omega, by omega, hS3, hC, t0, t2, t3, rfl, rfl⟩
      ·rcases ho with ho | ho | ho
       ·skip
        have y0 : (((c.toNat : Nat) : Int) == 42) = true := by simp [ho]
        repeat (first | (((with_reducible refine Qa fun K E hK hE => ?_)); simp -implicitDefEqProofs only [Qd, Qb, Qf, OpW, aop, undef, AS.ev, Qc, Qn, Qt, Qg, Qnf, ↓reduceIte, Nat.reduceLT, Nat.reduceEqDiff, aBin, QmS, QmT, QmU, QmX, QmV, QR, beq_false, t4, y0]) | (with_reducible (first | refine QD ?_ | refine Qj ?_)) | ((with_reducible refine hK _ ?_); clear hK) | (refine Qk rfl ?_; simp only [↓reduceIte]))
        exact ⟨t0, t2, t3, t4, rfl⟩
       ·skip
        have y0 : (((c.toNat : Nat) : Int) == 42) = false := by simp [ho]
        have y1 : (((c.toNat : Nat) : Int) == 47) = true := by simp [ho]
        repeat (first | (((with_reducible refine Qa fun K E hK hE => ?_)); simp -implicitDefEqProofs only [Qd, Qb, Qf, OpW, aop, undef, AS.ev, Qc, Qn, Qt, Qg, Qnf, ↓reduceIte, Nat.reduceLT, Nat.reduceEqDiff, aBin, QmS, QmT, QmU, QmX, QmV, QR, Qm0, QmW, beq_false, t4, y0, y1]) | (with_reducible (first | refine QD ?_ | refine Qj ?_)) | ((with_reducible refine hK _ ?_); clear hK) | (refine Qk rfl ?_; simp only [↓reduceIte]))
        exact ⟨t0, t2, t3, t4, rfl⟩
       ·skip
        have y0 : (((c.toNat : Nat) : Int) == 42) = false := by simp [ho]
        have y1 : (((c.toNat : Nat) : Int) == 47) = false := by simp [ho]
        have y2 : (((c.toNat : Nat) : Int) == 37) = true := by simp [ho]
        repeat (first | (((with_reducible refine Qa fun K E hK hE => ?_)); simp -implicitDefEqProofs only [Qd, Qb, Qf, OpW, aop, AS.ev, Qc, Qn, Qg, ↓reduceIte, Nat.reduceLT, Nat.reduceEqDiff, aBin, QmS, QmT, QmU, QmX, QmV, QR, Qm0, QmW, t4, y0, y1, y2]) | (with_reducible (first | refine QD ?_ | refine Qj ?_)) | ((with_reducible refine hK _ ?_); clear hK) | (refine Qk rfl ?_; simp only [↓reduceIte]))
        exact ⟨t0, t2, t3, t4, rfl⟩
     ·rw [if_neg (by rw [QhF]; simp only [ho, if_false]; split <;> decide)] at hC
      have y1 : (((c.toNat : Nat) : Int) == 42) = false := by simp; omega
      have y2 : (((c.toNat : Nat) : Int) == 47) = false := by simp; omega
      have y3 : (((c.toNat : Nat) : Int) == 37) = false := by simp; omega
      repeat (first | (((with_reducible refine Qa fun K E hK hE => ?_)); simp -implicitDefEqProofs only [Qd, Qb, Qf, OpW, aop, undef, AS.ev, Qc, QL, Qn, Qg, AV.Qmr, Qo, QB, Qnc, Qnd, Qs, Qu, QI, Qne, ↓reduceIte, Qm5, Qm6, Nat.reduceAdd, Nat.reduceLT, Nat.reduceEqDiff, Qm4, Qnq, QG, QH, QW, QM, aBin, QmS, QmT, Qnm, QmU, QmX, QmV, QR, Qm0, QmW, T.Qmp, T.Qmq, ti24, t2, t3, t4, f4, f5, f6, y1, y2, y3, T.Qmp, T.Qmq]) | (with_reducible (first | refine Qi fun K hK => ?_ | refine Qm ?_ | refine Xb ?_ | refine Qj ?_ | refine Q5 ?_ | refine Q4 ?_)) | ((with_reducible refine hK _ ?_); clear hK) | (clear hK; (with_reducible refine hK _ ?_); clear hK) | (refine Qk rfl ?_; simp only [↓reduceIte, QmW]))
      simp -implicitDefEqProofs only [Qg, ↓reduceIte, Qm5, Qm6, Nat.reduceAdd, Nat.reduceEqDiff, Qm4, Qnq, QG, QH, QmS, QmY, T.Qmp, T.Qmq, ti24, QG, QH, t2, f4, T.Qmp, T.Qmq, QN, Qp, Qw, Qm2]
      rw [← hC]
      exact Zo
 ·rw [hI]
  exact ⟨t0, q0, e0, q0.length + 1, rfl, by omega, by omega, hS1, hC, rfl, rfl, rfl, rfl, rfl⟩
theorem QiE {sb : ByteArray} (hb : sb.size ≤ 1000000) {g : List UInt8 → RT} {N : Nat} (H : Sdr sb 88 g N) (hS : Sf g) (hN : N ≤ 1000000) : Sdr sb 50 (Qb6 g 1) N := by
 intro r hr hl h j hj
 have f1 := fun x => Xw h j x
 have f2 := Yh hj sb
 have f4 := fun x L => Yg (h := h) (i := j) x L
 have f5 := fun x L k => Qaa (h := h) (i := j) x L k
 have f6 := fun x y L => X5 (h := h) (i := j) x y L
 have f7 := fun x y L k => YQ (h := h) (i := j) x y L k
 have cO := fun L => H.L hr hl hj L
 have hS1 := (hS r).trans hr
 have hS2 := (hS r).length_le
 rw [Qb6]
 generalize g r = X0 at *
 obtain ⟨t0, q0, e0⟩ := X0
 simp only at hS1 hS2 cO ⊢
 have cn := fun L => Qav hb hS1 e0 hj L
 generalize hC : Zv g 1 (q0.length + 1) (t0, q0, e0) = C
 refine Qe Tryz.func50 rfl Tryz.call50 Tryz.ntmps50 (congrArg Array.toList Tryz.results50) (by simp) ?_
 repeat (first | ((first | (with_reducible (first | refine Qa fun K E hK hE => ?_ | refine FunW.ret (FunW.call (cO _)) ?_ | refine FunW.ret (FunW.call (cn _)) ?_))); simp -implicitDefEqProofs only [Qd, Qb, Qf, OpW, QQ, aop, undef, AS.ev, Qc, QL, Qg, Qv, QmZ, AV.Qmr, Qo, QB, Qnc, Qnd, Qs, Qu, QE, QI, Qne, ↓reduceIte, Qm5, Qm6, Nat.reduceAdd, Nat.reduceLT, Nat.reduceEqDiff, Qm4, Qnq, QW, QM, hlen, happ, QmS, QmT, Qnm, Qnn, QmU, Qm7, Qnb, Qnk, Qnj, T.Qmp, T.Qmq, ti24, zi24, f1, f5, f7, T.Qmp, T.Qmq]) | (with_reducible (first | refine Qi fun K hK => ?_ | refine Qq ?_)) | ((with_reducible refine hK _ ?_); clear hK))
 obtain ⟨I, hI⟩ : ∃ I : Nat → AS → Prop, I = fun m' s => ∃ (t : T) (q : List UInt8) (e : Int) (M : Nat), m' = q.length ∧ q.length < M ∧ q.length < N ∧ Suf sb q ∧ Zv g 1 M (t, q, e) = C ∧ s.tm 0 = .ptr j 0 0 ∧ s.tm 2 = .ptr h.length 0 0 ∧ s.tm 3 = .ptr (h.length + 1) 0 0 ∧ s.tm 4 = .v (.int .u8 (lk q e : Nat)) ∧ s.h = hs h j (rr sb (QV q) e) ++ [zT0, .cells 24 4 [t.av]] := ⟨_, rfl⟩; refine XJ I ?_ (m := q0.length) ?_
 ·intro m' s hs; rw [hI] at hs; obtain ⟨tm, hp⟩ := s; dsimp only at hs; obtain ⟨t, q, e, M, rfl, hM, hqN, hq, hC, t0, t2, t3, t4, rfl⟩ := hs
  cases M with
  | zero => exact absurd hM (Nat.not_lt_zero _)
  | succ M =>
   rw [Zv] at hC
   simp only at hC
   by_cases he : e ≠ 0
   ·rw [if_pos he] at hC
    have ev : lk q e = 0 := by rw [lk, if_neg he]
    rw [ev] at t4
    have y1 : (((0 : Nat) : Int) == 43) = false := rfl
    have y2 : (((0 : Nat) : Int) == 45) = false := rfl
    have y3 : (((0 : Nat) : Int) == 45) = false := rfl
    have y4 : ((0 : Int) == 43) = false := rfl
    have y5 : ((0 : Int) == 45) = false := rfl
    have y6 : ((0 : Int) == 45) = false := rfl
    repeat (first | (((with_reducible refine Qa fun K E hK hE => ?_)); simp -implicitDefEqProofs only [Qd, Qb, Qf, OpW, aop, undef, AS.ev, Qc, QL, Qn, Qg, AV.Qmr, Qo, QB, Qnc, Qnd, Qs, Qu, QI, Qne, ↓reduceIte, Qm5, Qm6, Nat.reduceAdd, Nat.reduceLT, Nat.reduceEqDiff, Qm4, Qnq, QG, QH, QW, QM, aBin, QmS, QmT, Qnm, QmU, QmX, QmV, QR, Qm0, QnE, QmW, T.Qmp, T.Qmq, ti24, y4, y5, t2, t3, t4, f4, f5, f6, T.Qmp, T.Qmq]) | (with_reducible (first | refine Qi fun K hK => ?_ | refine Qm ?_ | refine Xb ?_ | refine Qj ?_ | refine Q5 ?_ | refine Q4 ?_)) | ((with_reducible refine hK _ ?_); clear hK) | (clear hK; (with_reducible refine hK _ ?_); clear hK) | (refine Qk rfl ?_; simp only [↓reduceIte, QmW]))
    simp -implicitDefEqProofs only [Qg, ↓reduceIte, Qm5, Qm6, Nat.reduceAdd, Nat.reduceEqDiff, Qm4, Qnq, QG, QH, QmS, QmY, T.Qmp, T.Qmq, ti24, QG, QH, t2, f4, T.Qmp, T.Qmq, QN, Qp, Qw, Qm2]
    rw [← hC]
    exact Zo
   ·obtain rfl : e = 0 := by
     apply Classical.byContradiction; intro h; exact he h
    rw [if_neg he] at hC
    have ev : lk q 0 = nx q := by rw [lk, if_pos rfl]
    rw [ev] at t4
    cases hsk : QV q with
    | nil =>
     rw [hsk] at hC
     rw [show nx q = 0 by rw [nx, hsk]] at t4
     have y1 : (((0 : Nat) : Int) == 43) = false := rfl
     have y2 : (((0 : Nat) : Int) == 45) = false := rfl
     have y3 : (((0 : Nat) : Int) == 45) = false := rfl
     have y4 : ((0 : Int) == 43) = false := rfl
     have y5 : ((0 : Int) == 45) = false := rfl
     have y6 : ((0 : Int) == 45) = false := rfl
     repeat (first | (((with_reducible refine Qa fun K E hK hE => ?_)); simp -implicitDefEqProofs only [Qd, Qb, Qf, OpW, aop, undef, AS.ev, Qc, QL, Qn, Qg, AV.Qmr, Qo, QB, Qnc, Qnd, Qs, Qu, QI, Qne, ↓reduceIte, Qm5, Qm6, Nat.reduceAdd, Nat.reduceLT, Nat.reduceEqDiff, Qm4, Qnq, QG, QH, QW, QM, aBin, QmS, QmT, Qnm, QmU, QmX, QmV, QR, Qm0, QnE, QmW, T.Qmp, T.Qmq, ti24, y4, y5, t2, t3, t4, f4, f5, f6, T.Qmp, T.Qmq]) | (with_reducible (first | refine Qi fun K hK => ?_ | refine Qm ?_ | refine Xb ?_ | refine Qj ?_ | refine Q5 ?_ | refine Q4 ?_)) | ((with_reducible refine hK _ ?_); clear hK) | (clear hK; (with_reducible refine hK _ ?_); clear hK) | (refine Qk rfl ?_; simp only [↓reduceIte, QmW]))
     simp -implicitDefEqProofs only [Qg, ↓reduceIte, Qm5, Qm6, Nat.reduceAdd, Nat.reduceEqDiff, Qm4, Qnq, QG, QH, QmS, QmY, T.Qmp, T.Qmq, ti24, QG, QH, t2, f4, T.Qmp, T.Qmq, QN, Qp, Qw, Qm2]
     rw [← hC]
     exact Zo
    | cons c q2 =>
     rw [hsk] at hC
     simp only at hC
     rw [show nx q = c.toNat by rw [nx, hsk]] at t4
     have hs1 : Suf sb (c :: q2) := hsk ▸ Suf.skip hq
     have hlt := Xe hsk
     have hw := Y4 hs1 hb
     have f3 := fun r2 e2 => Y0 hj sb (c :: q2) 0 r2 e2
     by_cases ho : c.toNat = 43 ∨ c.toNat = 45
     ·rw [if_pos (by rw [QhF]; rw [if_pos ho])] at hC
      have cE := H.L hs1.tail (by omega) hj [zT0, .cells 24 4 [t.av]]
      have hS3 := (hS q2).trans hs1.tail
      have hS4 := (hS q2).length_le
      generalize g q2 = X at *
      obtain ⟨u, q3, e3⟩ := X
      simp only at hC cE hS3 hS4
      have cn2 := Qav hb hS3 e3 hj [zT0, .cells 24 4 [(T.mk 2 0 (mkB [c]) [t, u]).av]]
      have os := fun own H => QjJ c own H
      have fold : AV.agg [.i 2, .i 0, .v (.string (mkB [c])), .sl 4 [t.av, u.av] none] = (T.mk 2 0 (mkB [c]) [t, u]).av := rfl
      refine Yt (fun s => s.tm 0 = .ptr j 0 0 ∧ s.tm 2 = .ptr h.length 0 0 ∧ s.tm 3 = .ptr (h.length + 1) 0 0 ∧ s.tm 4 = .v (.int .u8 ((c.toNat : Nat) : Int)) ∧ s.h = hs h j (rr sb (c :: q2) 0) ++ [zT0, .cells 24 4 [t.av]]) ?_ ?_
      ·rintro ⟨tm, hp⟩ ⟨t0, t2, t3, t4, hh⟩
       have hh := hh.symm
       dsimp only at t0 t2 t3 t4 hh
       subst hh
       repeat (first | (((with_reducible refine Qa fun K E hK hE => ?_)); simp -implicitDefEqProofs only [Qd, Qb, Qf, OpW, aop, undef, AS.ev, Qc, QL, Qn, Qg, AV.Qmr, Qo, QT, QB, Q7, Qnc, Qnd, Qs, Qne, ↓reduceIte, Qm5, Qm6, Nat.reduceAdd, Nat.reduceLT, Nat.reduceLeDiff, Nat.reduceEqDiff, Qm4, Qnq, Ql, QG, QH, QW, QM, aBin, QmS, QmT, Qnm, QmU, Qnk, Qnj, Qm3, Qna, Qm1, Qm9, XK, QmW, ti3, Xl, QC, t0, f2, f3, hw]) | (with_reducible (first | refine Qi fun K hK => ?_ | refine Qq ?_)) | ((with_reducible refine hK _ ?_); clear hK))
       refine ZT 3 5 [(0, 1), (1, 1), (2, 1), (4, 1)] [(3, 0), (5, 2), (6, 1), (7, 1), (8, 2)] [(5, 2), (3, 0), (6, 1), (7, 1), (8, 2)] mixed rfl (by kernel_rfl) (by kernel_rfl) (by kernel_rfl) (by kernel_rfl) (by kernel_rfl) (by kernel_rfl) fun K hK => ?_
       simp -implicitDefEqProofs only [Q1, QX, Q8, Qf, aop, AS.ev, Qc, Qg, AV.Qmr, QT, Qnc, Qnd, Qs, Qne, ↓reduceIte, Qm5, Qm6, Nat.reduceAdd, Nat.reduceLT, Nat.reduceLeDiff, Nat.reduceEqDiff, Nat.reduceMul, Qm4, Qnq, QG, QH, Q6, QmS, QmT, QmU, QmV, Qm7, Qnb, Qm0, rng1, Xk, Nat.reducePow, T.Qmp, T.Qmq, zi5, ti24, ei67, t0, t3, t4, f5, os]
       refine ⟨?_, ?_⟩
       ·refine XB (FunW.call cE) YX ?_
        simp -implicitDefEqProofs only [Q1, QX, Q8, Qf, aop, undef, AS.ev, Qc, QL, Qn, Qg, AV.Qmr, Qo, QT, Xv, QB, Qnc, Qnd, Qs, Qu, QE, QI, Qne, ↓reduceIte, Qm5, Qm6, Nat.reduceAdd, Nat.reduceLT, Nat.reduceLeDiff, Nat.reduceEqDiff, Nat.reduceMul, Qm4, Qnq, QW, QM, Xn, XE, Q6, QmS, QmT, Qnm, Qnn, QmU, QmV, Qm7, Qnb, Qnk, Qnj, Qnl, Qm3, Qna, Qm1, Qm9, Qm0, rng2, Xk, Nat.reducePow, T.Qmp, T.Qmq, ei22, ti24, zi24, sp24, t3, f5, f7, T.Qmp, T.Qmq]
        repeat (first | ((first | (with_reducible (first | refine Qr fun K E hK hE => ?_ | refine FunW.ret (FunW.call cn2) ?_))); simp -implicitDefEqProofs only [Qd, Qb, Qf, OpW, QQ, aop, AS.ev, Qc, Qg, ↓reduceIte, Nat.reduceLT, Nat.reduceEqDiff, Qm7, Qnb, t0, fold]) | (with_reducible (first | refine Qj ?_ | refine QF ?_)) | ((with_reducible refine hK _ ?_); clear hK))
        refine Yo.mk (m' := q3.length) (by omega) ?_
        rw [hI]
        exact ⟨.mk 2 0 (mkB [c]) [t, u], q3, e3, M, rfl, by omega, by omega, hS3, hC, t0, t2, t3, rfl, rfl⟩
       ·refine XB (FunW.call cE) YX ?_
        simp -implicitDefEqProofs only [Q1, QX, Q8, Qf, aop, undef, AS.ev, Qc, QL, Qn, Qg, AV.Qmr, Qo, QT, Xv, QB, Qnc, Qnd, Qs, Qu, QE, QI, Qne, ↓reduceIte, Qm5, Qm6, Nat.reduceAdd, Nat.reduceLT, Nat.reduceLeDiff, Nat.reduceEqDiff, Nat.reduceMul, Qm4, Qnq, QG, QH, QW, QM, Xn, XE, Q6, QmS, QmT, Qnm, Qnn, QmU, QmV, Qm7, Qnb, Qnk, Qnj, Qnl, Qm3, Qna, Qm1, Qm9, Qm0, rng2, Xk, Nat.reducePow, T.Qmp, T.Qmq, ei22, ti24, zi24, sp24, t3, f5, f7, T.Qmp, T.Qmq]
        repeat (first | ((first | (with_reducible (first | refine Qr fun K E hK hE => ?_ | refine FunW.ret (FunW.call cn2) ?_))); simp -implicitDefEqProofs only [Qd, Qb, Qf, OpW, QQ, aop, AS.ev, Qc, Qg, ↓reduceIte, Nat.reduceLT, Nat.reduceEqDiff, Qm7, Qnb, t0, fold]) | (with_reducible (first | refine Qj ?_ | refine QF ?_)) | ((with_reducible refine hK _ ?_); clear hK))
        refine Yo.mk (m' := q3.length) (by omega) ?_
        rw [hI]
        exact ⟨.mk 2 0 (mkB [c]) [t, u], q3, e3, M, rfl, by omega, by omega, hS3, hC, t0, t2, t3, rfl, rfl⟩
      ·rcases ho with ho | ho
       ·skip
        have y0 : (((c.toNat : Nat) : Int) == 43) = true := by simp [ho]
        repeat (first | (((with_reducible refine Qa fun K E hK hE => ?_)); simp -implicitDefEqProofs only [Qd, Qb, Qf, OpW, aop, undef, AS.ev, Qc, Qn, Qt, Qg, Qnf, ↓reduceIte, Nat.reduceLT, Nat.reduceEqDiff, aBin, QmS, QmT, QmU, QmX, QmV, QR, beq_false, t4, y0]) | (with_reducible (first | refine QD ?_ | refine Qj ?_)) | ((with_reducible refine hK _ ?_); clear hK) | (refine Qk rfl ?_; simp only [↓reduceIte]))
        exact ⟨t0, t2, t3, t4, rfl⟩
       ·skip
        have y0 : (((c.toNat : Nat) : Int) == 43) = false := by simp [ho]
        have y1 : (((c.toNat : Nat) : Int) == 45) = true := by simp [ho]
        repeat (first | (((with_reducible refine Qa fun K E hK hE => ?_)); simp -implicitDefEqProofs only [Qd, Qb, Qf, OpW, aop, AS.ev, Qc, Qn, Qg, ↓reduceIte, Nat.reduceLT, Nat.reduceEqDiff, aBin, QmS, QmT, QmU, QmX, QmV, QR, Qm0, QmW, t4, y0, y1]) | (with_reducible (first | refine QD ?_ | refine Qj ?_)) | ((with_reducible refine hK _ ?_); clear hK) | (refine Qk rfl ?_; simp only [↓reduceIte]))
        exact ⟨t0, t2, t3, t4, rfl⟩
     ·rw [if_neg (by rw [QhF]; rw [if_neg ho]; split <;> decide)] at hC
      have y1 : (((c.toNat : Nat) : Int) == 43) = false := by simp; omega
      have y2 : (((c.toNat : Nat) : Int) == 45) = false := by simp; omega
      have y3 : (((c.toNat : Nat) : Int) == 45) = false := by simp; omega
      repeat (first | (((with_reducible refine Qa fun K E hK hE => ?_)); simp -implicitDefEqProofs only [Qd, Qb, Qf, OpW, aop, undef, AS.ev, Qc, QL, Qn, Qg, AV.Qmr, Qo, QB, Qnc, Qnd, Qs, Qu, QI, Qne, ↓reduceIte, Qm5, Qm6, Nat.reduceAdd, Nat.reduceLT, Nat.reduceEqDiff, Qm4, Qnq, QG, QH, QW, QM, aBin, QmS, QmT, Qnm, QmU, QmX, QmV, QR, Qm0, QmW, T.Qmp, T.Qmq, ti24, t2, t3, t4, f4, f5, f6, y1, y2, T.Qmp, T.Qmq]) | (with_reducible (first | refine Qi fun K hK => ?_ | refine Qm ?_ | refine Xb ?_ | refine Qj ?_ | refine Q5 ?_ | refine Q4 ?_)) | ((with_reducible refine hK _ ?_); clear hK) | (clear hK; (with_reducible refine hK _ ?_); clear hK) | (refine Qk rfl ?_; simp only [↓reduceIte, QmW]))
      simp -implicitDefEqProofs only [Qg, ↓reduceIte, Qm5, Qm6, Nat.reduceAdd, Nat.reduceEqDiff, Qm4, Qnq, QG, QH, QmS, QmY, T.Qmp, T.Qmq, ti24, QG, QH, t2, f4, T.Qmp, T.Qmq, QN, Qp, Qw, Qm2]
      rw [← hC]
      exact Zo
 ·rw [hI]
  exact ⟨t0, q0, e0, q0.length + 1, rfl, by omega, by omega, hS1, hC, rfl, rfl, rfl, rfl, rfl⟩
end Go.Proofs.YtehjodmnajgdgaaGreatDoor.Ab
set_option maxRecDepth 4000
namespace Go.Proofs.YtehjodmnajgdgaaGreatDoor.Ab
open Go.Proofs
def Qgo (op : Int) : ByteArray := if op = 3 then { data := #[61] } else if op = 4 then { data := #[105, 115] } else if op = 5 then { data := #[61, 61] } else if op = 6 then { data := #[92, 61] } else if op = 7 then { data := #[60] } else if op = 8 then { data := #[61, 60] } else if op = 9 then { data := #[61, 58, 61] } else { data := #[61, 92, 61] }
theorem Qjx : Pure Tryz.prog 41 [.i 3] (.v (.string { data := #[61] })) := by
  intro h
  refine Qe Tryz.func41 rfl Tryz.call41 Tryz.ntmps41 (congrArg Array.toList Tryz.results41) (by simp) ?_
  repeat (first | (((with_reducible refine Qa fun K E hK hE => ?_)); simp -implicitDefEqProofs only [Qd, Qb, Qf, OpW, aop, undef, AS.ev, Qc, Qn, QO, Qg, Qv, QmZ, ↓reduceIte, Nat.reduceLT, Nat.reduceEqDiff, aBin, QmU, QR, Qm0]) | (with_reducible (first | refine Qi fun K hK => ?_ | refine Qq ?_ | refine Qm ?_ | refine QA ?_ | refine QJ ?_)) | ((with_reducible refine hK _ ?_); clear hK) | (refine Qk rfl ?_; simp only [↓reduceIte]))
  simp only [QN, Qp, Qw, upd, ↓reduceIte, QmY, Qm2]; first | refine Qh (htake _ _) (.keep (.v _)) ⟨rfl, rfl⟩ | refine Qh List.take_length (.keep (.v _)) ⟨rfl, rfl⟩
theorem Qjf : Pure Tryz.prog 41 [.i 4] (.v (.string { data := #[105, 115] })) := by
  intro h
  have z3 : ((4 : Int) == 3) = false := by decide
  refine Qe Tryz.func41 rfl Tryz.call41 Tryz.ntmps41 (congrArg Array.toList Tryz.results41) (by simp) ?_
  repeat (first | (((with_reducible refine Qa fun K E hK hE => ?_)); simp -implicitDefEqProofs only [Qd, Qb, Qf, OpW, aop, undef, AS.ev, Qc, Qn, QO, Qg, Qv, QmZ, ↓reduceIte, Nat.reduceLT, Nat.reduceEqDiff, aBin, QmU, QR, Qm0, z3]) | (with_reducible (first | refine Qi fun K hK => ?_ | refine Qq ?_ | refine Qm ?_ | refine QA ?_ | refine QJ ?_)) | ((with_reducible refine hK _ ?_); clear hK) | (refine Qk rfl ?_; simp only [↓reduceIte, QmW]))
  simp only [QN, Qp, Qw, upd, ↓reduceIte, QmY, Qm2]; first | refine Qh (htake _ _) (.keep (.v _)) ⟨rfl, rfl⟩ | refine Qh List.take_length (.keep (.v _)) ⟨rfl, rfl⟩
theorem QjR : Pure Tryz.prog 41 [.i 5] (.v (.string { data := #[61, 61] })) := by
  intro h
  have z3 : ((5 : Int) == 3) = false := by decide
  have z4 : ((5 : Int) == 4) = false := by decide
  refine Qe Tryz.func41 rfl Tryz.call41 Tryz.ntmps41 (congrArg Array.toList Tryz.results41) (by simp) ?_
  repeat (first | (((with_reducible refine Qa fun K E hK hE => ?_)); simp -implicitDefEqProofs only [Qd, Qb, Qf, OpW, aop, undef, AS.ev, Qc, Qn, QO, Qg, Qv, QmZ, ↓reduceIte, Nat.reduceLT, Nat.reduceEqDiff, aBin, QmU, QR, Qm0, z3, z4]) | (with_reducible (first | refine Qi fun K hK => ?_ | refine Qq ?_ | refine Qm ?_ | refine QA ?_ | refine QJ ?_)) | ((with_reducible refine hK _ ?_); clear hK) | (refine Qk rfl ?_; simp only [↓reduceIte, QmW]))
  simp only [QN, Qp, Qw, upd, ↓reduceIte, QmY, Qm2]; first | refine Qh (htake _ _) (.keep (.v _)) ⟨rfl, rfl⟩ | refine Qh List.take_length (.keep (.v _)) ⟨rfl, rfl⟩
theorem Qke : Pure Tryz.prog 41 [.i 6] (.v (.string { data := #[92, 61] })) := by
  intro h
  have z3 : ((6 : Int) == 3) = false := by decide
  have z4 : ((6 : Int) == 4) = false := by decide
  have z5 : ((6 : Int) == 5) = false := by decide
  refine Qe Tryz.func41 rfl Tryz.call41 Tryz.ntmps41 (congrArg Array.toList Tryz.results41) (by simp) ?_
  repeat (first | (((with_reducible refine Qa fun K E hK hE => ?_)); simp -implicitDefEqProofs only [Qd, Qb, Qf, OpW, aop, undef, AS.ev, Qc, Qn, QO, Qg, Qv, QmZ, ↓reduceIte, Nat.reduceLT, Nat.reduceEqDiff, aBin, QmU, QR, Qm0, z3, z4, z5]) | (with_reducible (first | refine Qi fun K hK => ?_ | refine Qq ?_ | refine Qm ?_ | refine QA ?_ | refine QJ ?_)) | ((with_reducible refine hK _ ?_); clear hK) | (refine Qk rfl ?_; simp only [↓reduceIte, QmW]))
  simp only [QN, Qp, Qw, upd, ↓reduceIte, QmY, Qm2]; first | refine Qh (htake _ _) (.keep (.v _)) ⟨rfl, rfl⟩ | refine Qh List.take_length (.keep (.v _)) ⟨rfl, rfl⟩
theorem QjD : Pure Tryz.prog 41 [.i 7] (.v (.string { data := #[60] })) := by
  intro h
  have z3 : ((7 : Int) == 3) = false := by decide
  have z4 : ((7 : Int) == 4) = false := by decide
  have z5 : ((7 : Int) == 5) = false := by decide
  have z6 : ((7 : Int) == 6) = false := by decide
  refine Qe Tryz.func41 rfl Tryz.call41 Tryz.ntmps41 (congrArg Array.toList Tryz.results41) (by simp) ?_
  repeat (first | (((with_reducible refine Qa fun K E hK hE => ?_)); simp -implicitDefEqProofs only [Qd, Qb, Qf, OpW, aop, undef, AS.ev, Qc, Qn, QO, Qg, Qv, QmZ, ↓reduceIte, Nat.reduceLT, Nat.reduceEqDiff, aBin, QmU, QR, Qm0, z3, z4, z5, z6]) | (with_reducible (first | refine Qi fun K hK => ?_ | refine Qq ?_ | refine Qm ?_ | refine QA ?_ | refine QJ ?_)) | ((with_reducible refine hK _ ?_); clear hK) | (refine Qk rfl ?_; simp only [↓reduceIte, QmW]))
  simp only [QN, Qp, Qw, upd, ↓reduceIte, QmY, Qm2]; first | refine Qh (htake _ _) (.keep (.v _)) ⟨rfl, rfl⟩ | refine Qh List.take_length (.keep (.v _)) ⟨rfl, rfl⟩
theorem QiU : Pure Tryz.prog 41 [.i 8] (.v (.string { data := #[61, 60] })) := by
  intro h
  have z3 : ((8 : Int) == 3) = false := by decide
  have z4 : ((8 : Int) == 4) = false := by decide
  have z5 : ((8 : Int) == 5) = false := by decide
  have z6 : ((8 : Int) == 6) = false := by decide
  have z7 : ((8 : Int) == 7) = false := by decide
  refine Qe Tryz.func41 rfl Tryz.call41 Tryz.ntmps41 (congrArg Array.toList Tryz.results41) (by simp) ?_
  repeat (first | (((with_reducible refine Qa fun K E hK hE => ?_)); simp -implicitDefEqProofs only [Qd, Qb, Qf, OpW, aop, undef, AS.ev, Qc, Qn, QO, Qg, Qv, QmZ, ↓reduceIte, Nat.reduceLT, Nat.reduceEqDiff, aBin, QmU, QR, Qm0, z3, z4, z5, z6, z7]) | (with_reducible (first | refine Qi fun K hK => ?_ | refine Qq ?_ | refine Qm ?_ | refine QA ?_ | refine QJ ?_)) | ((with_reducible refine hK _ ?_); clear hK) | (refine Qk rfl ?_; simp only [↓reduceIte, QmW]))
  simp only [QN, Qp, Qw, upd, ↓reduceIte, QmY, Qm2]; first | refine Qh (htake _ _) (.keep (.v _)) ⟨rfl, rfl⟩ | refine Qh List.take_length (.keep (.v _)) ⟨rfl, rfl⟩
theorem QiJ : Pure Tryz.prog 41 [.i 9] (.v (.string { data := #[61, 58, 61] })) := by
  intro h
  have z3 : ((9 : Int) == 3) = false := by decide
  have z4 : ((9 : Int) == 4) = false := by decide
  have z5 : ((9 : Int) == 5) = false := by decide
  have z6 : ((9 : Int) == 6) = false := by decide
  have z7 : ((9 : Int) == 7) = false := by decide
  have z8 : ((9 : Int) == 8) = false := by decide
  refine Qe Tryz.func41 rfl Tryz.call41 Tryz.ntmps41 (congrArg Array.toList Tryz.results41) (by simp) ?_
  repeat (first | (((with_reducible refine Qa fun K E hK hE => ?_)); simp -implicitDefEqProofs only [Qd, Qb, Qf, OpW, aop, undef, AS.ev, Qc, Qn, QO, Qg, Qv, QmZ, ↓reduceIte, Nat.reduceLT, Nat.reduceEqDiff, aBin, QmU, QR, Qm0, z3, z4, z5, z6, z7, z8]) | (with_reducible (first | refine Qi fun K hK => ?_ | refine Qq ?_ | refine Qm ?_ | refine QA ?_ | refine QJ ?_)) | ((with_reducible refine hK _ ?_); clear hK) | (refine Qk rfl ?_; simp only [↓reduceIte, QmW]))
  simp only [QN, Qp, Qw, upd, ↓reduceIte, QmY, Qm2]; first | refine Qh (htake _ _) (.keep (.v _)) ⟨rfl, rfl⟩ | refine Qh List.take_length (.keep (.v _)) ⟨rfl, rfl⟩
theorem QhZ : Pure Tryz.prog 41 [.i 10] (.v (.string { data := #[61, 92, 61] })) := by
  intro h
  have z3 : ((10 : Int) == 3) = false := by decide
  have z4 : ((10 : Int) == 4) = false := by decide
  have z5 : ((10 : Int) == 5) = false := by decide
  have z6 : ((10 : Int) == 6) = false := by decide
  have z7 : ((10 : Int) == 7) = false := by decide
  have z8 : ((10 : Int) == 8) = false := by decide
  have z9 : ((10 : Int) == 9) = false := by decide
  refine Qe Tryz.func41 rfl Tryz.call41 Tryz.ntmps41 (congrArg Array.toList Tryz.results41) (by simp) ?_
  repeat (first | (((with_reducible refine Qa fun K E hK hE => ?_)); simp -implicitDefEqProofs only [Qd, Qb, Qf, OpW, aop, undef, AS.ev, Qc, Qn, QO, Qg, Qv, QmZ, ↓reduceIte, Nat.reduceLT, Nat.reduceEqDiff, aBin, QmU, QR, Qm0, z3, z4, z5, z6, z7, z8, z9]) | (with_reducible (first | refine Qi fun K hK => ?_ | refine Qq ?_ | refine Qm ?_ | refine QA ?_ | refine QJ ?_)) | ((with_reducible refine hK _ ?_); clear hK) | (refine Qk rfl ?_; simp only [↓reduceIte, QmW]))
  simp only [QN, Qp, Qw, upd, ↓reduceIte, QmY, Qm2]; first | refine Qh (htake _ _) (.keep (.v _)) ⟨rfl, rfl⟩ | refine Qh List.take_length (.keep (.v _)) ⟨rfl, rfl⟩
theorem Qf7 (op : Int) (h3 : 3 ≤ op) (h10 : op ≤ 10) : Pure Tryz.prog 41 [.i op] (.v (.string (Qgo op))) := by
  have : op = 3 ∨ op = 4 ∨ op = 5 ∨ op = 6 ∨ op = 7 ∨ op = 8 ∨ op = 9 ∨ op = 10 := by omega
  rcases this with rfl | rfl | rfl | rfl | rfl | rfl | rfl | rfl
  · exact Qjx
  · exact Qjf
  · exact QjR
  · exact Qke
  · exact QjD
  · exact QiU
  · exact QiJ
  · exact QhZ
theorem Qen (op : Int) (h3 : 3 ≤ op) (h10 : op ≤ 10) : (Qgo op).size ≤ 3 := by
  have : op = 3 ∨ op = 4 ∨ op = 5 ∨ op = 6 ∨ op = 7 ∨ op = 8 ∨ op = 9 ∨ op = 10 := by omega
  rcases this with rfl | rfl | rfl | rfl | rfl | rfl | rfl | rfl <;> decide
abbrev Qj3 : ByteArray := { data := #[116, 114, 117, 101] }
abbrev Qkm : ByteArray := { data := #[102, 97, 105, 108] }
abbrev intB : ByteArray := { data := #[105, 110, 116] }
abbrev grdB : ByteArray := { data := #[103, 114, 111, 117, 110, 100] }
def pairT (op : Int) : List ByteArray → ByteArray
  | [x, y] => (x ++ (({ data := #[32] } : ByteArray) ++ Qgo op ++ { data := #[32] })) ++ y
  | _ => .empty
def Qaz (g : G) : ByteArray := if g.op = 0 then funT g.name (txts g.args) else if g.op = 1 then Qj3 else if g.op = 2 then Qkm else if g.op = 11 then funT intB (txts g.args) else if g.op = 12 then funT grdB (txts g.args) else pairT g.op (txts g.args)
theorem QlW {h : AH} (hG : X9 h) (u : Bool) (tx : ByteArray) : X9 (HB (h ++ [AB.dead, AB.dead]) h.length (h.length + 1) u tx) := by
  obtain ⟨k, ty, fr, e⟩ := hG
  refine ⟨k, ty, fr, ?_⟩
  have hk := QS e
  rw [HB, YJ _ _ (by omega) (by omega), List.getElem?_append_left hk, e]
section
variable {h : AH} {i j p : Nat} (hi : i < h.length) (hj : j < h.length) (hij : i ≠ j) (hpi : i ≠ p) (hpj : j ≠ p)
theorem Qj8 (hi : i < h.length) (hj : j < h.length) (hij : i ≠ j) (hpi : i ≠ p) (hpj : j ≠ p) (g : G) (gp : h[p]? = some (.cells 34 2 [g.atom])) (hx : lexL g.args) (hl : g.args.length ≤ 1000000)
    (hG : X9 (HB h i j true (.empty))) (u : Bool) (tx : ByteArray) (hs : tx.size + (funT g.name (txts g.args)).size ≤ 140737488355328) :
    Wri 46 [.ptr i 0 0, .ptr p 0 0] h i j u tx (funT g.name (txts g.args)) := by
  have k1 : ∀ u tx, (HB h i j u tx)[p]? = some (.cells 34 2 [.agg [.v (.string g.name), .sl 4 (avs g.args) none]]) := fun u tx => by
    rw [HB, YJ _ _ hpi hpj, gp]; rfl
  have c1 := Z3 hi hj hij g.args hl g.name (fun a ha h hi hj hG tx hs => Qbm g.args hx i j hij a ha h hi hj hG true tx hs) hG u tx hs
  rw [Wri] at c1
  refine Qe Tryz.func46 rfl Tryz.call46 Tryz.ntmps46 (congrArg Array.toList Tryz.results46) (by simp) ?_
  repeat (first | ((first | (with_reducible (first | refine Qr fun K E hK hE => ?_ | refine FunW.ret (FunW.call c1) ?_))); simp -implicitDefEqProofs only [Qd, Qb, Qf, OpW, QQ, aop, undef, AS.ev, Qc, Qg, Qv, QmZ, Qni, Qo, ↓reduceIte, Nat.reduceLT, Nat.reduceEqDiff, Qm4, Qnh, Ql, QG, QH, QmS, QmT, QmU, Qm7, Qnb, ti9, ti22, QcH, Qeu, k1]) | ((with_reducible refine hK _ ?_); clear hK))
  simp -implicitDefEqProofs only [QmU, QmY, List.mapM_nil, Option.pure_def, QmU, QN, Qp, Qm2]
  exact .inr ⟨rfl, rfl⟩
theorem Qiu (hi : i < h.length) (hj : j < h.length) (hij : i ≠ j) (hpi : i ≠ p) (hpj : j ≠ p) (g : G) (gp : h[p]? = some (.cells 30 3 [g.goal])) (hx : lexL g.args) (hl : g.args.length ≤ 1000000) (ho : g.op = 0)
    (hG : X9 (HB h i j true (.empty))) (u : Bool) (tx : ByteArray) (hs : tx.size + (funT g.name (txts g.args)).size ≤ 140737488355328) :
    Wri 38 [.ptr i 0 0, .ptr p 0 0] h i j u tx (funT g.name (txts g.args)) := by
  have k1 : ∀ u tx, (HB h i j u tx)[p]? = some (.cells 30 3 [.agg [.i 0, .v (.string g.name), .sl 4 (avs g.args) none]]) := fun u tx => by
    rw [HB, YJ _ _ hpi hpj, gp, ← ho]; rfl
  have c1 := Z3 hi hj hij g.args hl g.name (fun a ha h hi hj hG tx hs => Qbm g.args hx i j hij a ha h hi hj hG true tx hs) hG u tx hs
  rw [Wri] at c1
  refine Qe Tryz.func38 rfl Tryz.call38 Tryz.ntmps38 (congrArg Array.toList Tryz.results38) (by simp) ?_
  repeat (first | ((first | (with_reducible (first | refine Qa fun K E hK hE => ?_ | refine Qr fun K E hK hE => ?_ | refine FunW.ret (FunW.call c1) ?_))); simp -implicitDefEqProofs only [Qd, Qb, Qf, OpW, QQ, aop, undef, AS.ev, Qc, Qn, Qg, Qv, QmZ, Qni, Qo, ↓reduceIte, Nat.reduceLT, Nat.reduceEqDiff, Qm4, Qnh, Ql, QG, QH, aBin, QmS, QmT, QmU, Qm7, Qnb, QR, Qm0, ti3, ti9, ti22, ZQ, QgF, QcO, k1]) | (with_reducible (first | refine Qq ?_ | refine QF ?_)) | ((with_reducible refine hK _ ?_); clear hK) | (refine Qk rfl ?_; simp only [↓reduceIte]))
  simp -implicitDefEqProofs only [QmU, QmY, List.mapM_nil, Option.pure_def, QmU, QN, Qp, Qm2]
  exact .inr ⟨rfl, rfl⟩
theorem Qig (hi : i < h.length) (hj : j < h.length) (hij : i ≠ j) (hpi : i ≠ p) (hpj : j ≠ p) (g : G) (gp : h[p]? = some (.cells 30 3 [g.goal])) (hx : lexL g.args) (hl : g.args.length ≤ 1000000) (ho : g.op = 1)
    (hG : X9 (HB h i j true (.empty))) (u : Bool) (tx : ByteArray) (hs : tx.size + (Qj3).size ≤ 140737488355328) :
    Wri 38 [.ptr i 0 0, .ptr p 0 0] h i j u tx (Qj3) := by
  have k1 : ∀ u tx, (HB h i j u tx)[p]? = some (.cells 30 3 [.agg [.i 1, .v (.string g.name), .sl 4 (avs g.args) none]]) := fun u tx => by
    rw [HB, YJ _ _ hpi hpj, gp, ← ho]; rfl
  have z0 : ((1 : Int) == 0) = false := by decide
  have c1 := wstr hi hj hij u tx Qj3 hs
  have f6 := fun u tx => Qhg (h := h) hi hij u tx
  refine Qe Tryz.func38 rfl Tryz.call38 Tryz.ntmps38 (congrArg Array.toList Tryz.results38) (by simp) ?_
  repeat (first | ((first | (with_reducible (first | refine Qa fun K E hK hE => ?_ | refine Qr fun K E hK hE => ?_ | refine FunW.ret (FunW.call c1) ?_))); simp -implicitDefEqProofs only [Qd, Qb, Qf, OpW, QQ, aop, undef, AS.ev, Qc, Qn, QO, Qg, Qv, QmZ, Qni, Qo, ↓reduceIte, Nat.reduceLT, Nat.reduceEqDiff, Qnh, Ql, QG, QH, aBin, QmS, QmU, Qm7, Qnb, QR, Qm0, ti3, ZQ, Zd, QC, k1, f6, z0]) | (with_reducible (first | refine Qq ?_ | refine QF ?_)) | ((with_reducible refine hK _ ?_); clear hK) | (refine Qk rfl ?_; simp only [↓reduceIte, QmW]))
  simp -implicitDefEqProofs only [QmU, QmY, List.mapM_nil, Option.pure_def, QmU, QN, Qp, Qm2]
  exact .inr ⟨rfl, rfl⟩
theorem Qih (hi : i < h.length) (hj : j < h.length) (hij : i ≠ j) (hpi : i ≠ p) (hpj : j ≠ p) (g : G) (gp : h[p]? = some (.cells 30 3 [g.goal])) (hx : lexL g.args) (hl : g.args.length ≤ 1000000) (ho : g.op = 2)
    (hG : X9 (HB h i j true (.empty))) (u : Bool) (tx : ByteArray) (hs : tx.size + (Qkm).size ≤ 140737488355328) :
    Wri 38 [.ptr i 0 0, .ptr p 0 0] h i j u tx (Qkm) := by
  have k1 : ∀ u tx, (HB h i j u tx)[p]? = some (.cells 30 3 [.agg [.i 2, .v (.string g.name), .sl 4 (avs g.args) none]]) := fun u tx => by
    rw [HB, YJ _ _ hpi hpj, gp, ← ho]; rfl
  have z0 : ((2 : Int) == 0) = false := by decide
  have z1 : ((2 : Int) == 1) = false := by decide
  have c1 := wstr hi hj hij u tx Qkm hs
  have f6 := fun u tx => Qhg (h := h) hi hij u tx
  refine Qe Tryz.func38 rfl Tryz.call38 Tryz.ntmps38 (congrArg Array.toList Tryz.results38) (by simp) ?_
  repeat (first | ((first | (with_reducible (first | refine Qa fun K E hK hE => ?_ | refine Qr fun K E hK hE => ?_ | refine FunW.ret (FunW.call c1) ?_))); simp -implicitDefEqProofs only [Qd, Qb, Qf, OpW, QQ, aop, undef, AS.ev, Qc, Qn, QO, Qg, Qv, QmZ, Qni, Qo, ↓reduceIte, Nat.reduceLT, Nat.reduceEqDiff, Qnh, Ql, QG, QH, aBin, QmS, QmU, Qm7, Qnb, QR, Qm0, ti3, ZQ, Zd, QC, k1, f6, z0, z1]) | (with_reducible (first | refine Qq ?_ | refine QF ?_)) | ((with_reducible refine hK _ ?_); clear hK) | (refine Qk rfl ?_; simp only [↓reduceIte, QmW]))
  simp -implicitDefEqProofs only [QmU, QmY, List.mapM_nil, Option.pure_def, QmU, QN, Qp, Qm2]
  exact .inr ⟨rfl, rfl⟩
theorem QiG (hi : i < h.length) (hj : j < h.length) (hij : i ≠ j) (hpi : i ≠ p) (hpj : j ≠ p) (g : G) (gp : h[p]? = some (.cells 30 3 [g.goal])) (hx : lexL g.args) (hl : g.args.length ≤ 1000000) (ho : g.op = 11)
    (hG : X9 (HB h i j true (.empty))) (u : Bool) (tx : ByteArray) (hs : tx.size + (funT intB (txts g.args)).size ≤ 140737488355328) :
    Wri 38 [.ptr i 0 0, .ptr p 0 0] h i j u tx (funT intB (txts g.args)) := by
  have k1 : ∀ u tx, (HB h i j u tx)[p]? = some (.cells 30 3 [.agg [.i 11, .v (.string g.name), .sl 4 (avs g.args) none]]) := fun u tx => by
    rw [HB, YJ _ _ hpi hpj, gp, ← ho]; rfl
  have z0 : ((11 : Int) == 0) = false := by decide
  have z1 : ((11 : Int) == 1) = false := by decide
  have z2 : ((11 : Int) == 2) = false := by decide
  have c1 := Z3 hi hj hij g.args hl intB (fun a ha h hi hj hG tx hs => Qbm g.args hx i j hij a ha h hi hj hG true tx hs) hG u tx hs
  rw [Wri] at c1
  refine Qe Tryz.func38 rfl Tryz.call38 Tryz.ntmps38 (congrArg Array.toList Tryz.results38) (by simp) ?_
  repeat (first | ((first | (with_reducible (first | refine Qa fun K E hK hE => ?_ | refine Qr fun K E hK hE => ?_ | refine FunW.ret (FunW.call c1) ?_))); simp -implicitDefEqProofs only [Qd, Qb, Qf, OpW, QQ, aop, undef, AS.ev, Qc, Qn, QO, Qg, Qv, QmZ, Qni, Qo, ↓reduceIte, Nat.reduceLT, Nat.reduceEqDiff, Qm4, Qnh, Ql, QG, QH, aBin, QmS, QmT, QmU, Qm7, Qnb, QR, Qm0, ti3, ti22, ZQ, QcO, k1, z0, z1, z2]) | (with_reducible (first | refine Qq ?_ | refine QF ?_)) | ((with_reducible refine hK _ ?_); clear hK) | (refine Qk rfl ?_; simp only [↓reduceIte, QmW]))
  simp -implicitDefEqProofs only [QmU, QmY, List.mapM_nil, Option.pure_def, QmU, QN, Qp, Qm2]
  exact .inr ⟨rfl, rfl⟩
theorem Qf5 (hi : i < h.length) (hj : j < h.length) (hij : i ≠ j) (hpi : i ≠ p) (hpj : j ≠ p) (g : G) (gp : h[p]? = some (.cells 30 3 [g.goal])) (hx : lexL g.args) (hl : g.args.length ≤ 1000000) (ho : g.op = 12)
    (hG : X9 (HB h i j true (.empty))) (u : Bool) (tx : ByteArray) (hs : tx.size + (funT grdB (txts g.args)).size ≤ 140737488355328) :
    Wri 38 [.ptr i 0 0, .ptr p 0 0] h i j u tx (funT grdB (txts g.args)) := by
  have k1 : ∀ u tx, (HB h i j u tx)[p]? = some (.cells 30 3 [.agg [.i 12, .v (.string g.name), .sl 4 (avs g.args) none]]) := fun u tx => by
    rw [HB, YJ _ _ hpi hpj, gp, ← ho]; rfl
  have z0 : ((12 : Int) == 0) = false := by decide
  have z1 : ((12 : Int) == 1) = false := by decide
  have z2 : ((12 : Int) == 2) = false := by decide
  have z11 : ((12 : Int) == 11) = false := by decide
  have c1 := Z3 hi hj hij g.args hl grdB (fun a ha h hi hj hG tx hs => Qbm g.args hx i j hij a ha h hi hj hG true tx hs) hG u tx hs
  rw [Wri] at c1
  refine Qe Tryz.func38 rfl Tryz.call38 Tryz.ntmps38 (congrArg Array.toList Tryz.results38) (by simp) ?_
  repeat (first | ((first | (with_reducible (first | refine Qa fun K E hK hE => ?_ | refine Qr fun K E hK hE => ?_ | refine FunW.ret (FunW.call c1) ?_))); simp -implicitDefEqProofs only [Qd, Qb, Qf, OpW, QQ, aop, undef, AS.ev, Qc, Qn, QO, Qg, Qv, QmZ, Qni, Qo, ↓reduceIte, Nat.reduceLT, Nat.reduceEqDiff, Qm4, Qnh, Ql, QG, QH, aBin, QmS, QmT, QmU, Qm7, Qnb, QR, Qm0, ti3, ti22, ZQ, QcO, k1, z0, z1, z2, z11]) | (with_reducible (first | refine Qq ?_ | refine QF ?_)) | ((with_reducible refine hK _ ?_); clear hK) | (refine Qk rfl ?_; simp only [↓reduceIte, QmW]))
  simp -implicitDefEqProofs only [QmU, QmY, List.mapM_nil, Option.pure_def, QmU, QN, Qp, Qm2]
  exact .inr ⟨rfl, rfl⟩
theorem Qis (hi : i < h.length) (hj : j < h.length) (hij : i ≠ j) (hpi : i ≠ p) (hpj : j ≠ p) (op : Int) (n : ByteArray) (a c : T) (gp : h[p]? = some (.cells 30 3 [.agg [.i op, .v (.string n), .sl 4 (avs [a, c]) none]])) (hx : lexL [a, c]) (h3 : 3 ≤ op) (h10 : op ≤ 10)
    (hG : X9 (HB h i j true (.empty))) (u : Bool) (tx : ByteArray) (hs : tx.size + (pairT op (txts [a, c])).size ≤ 140737488355328) :
    Wri 38 [.ptr i 0 0, .ptr p 0 0] h i j u tx (pairT op (txts [a, c])) := by
  have k1 : ∀ u tx, (HB h i j u tx)[p]? = some (.cells 30 3 [.agg [.i op, .v (.string n), .sl 4 (avs [a, c]) none]]) := fun u tx => by
    rw [HB, YJ _ _ hpi hpj, gp]
  have f6 := fun u tx => Qhg (h := h) hi hij u tx
  have et : pairT op (txts [a, c]) = (a.txt ++ (({ data := #[32] } : ByteArray) ++ Qgo op ++ { data := #[32] })) ++ c.txt := rfl
  rw [et] at hs ⊢
  simp only [QU] at hs
  have hsp : ({ data := #[32] } : ByteArray).size = 1 := rfl
  have cb := Qf7 op h3 h10
  have hbz := Qen op h3 h10
  have c1 := T.Qmw a hx.1 i j hij h hi hj hG u tx (by omega)
  have c2 := wstr hi hj hij true (tx ++ a.txt) (({ data := #[32] } : ByteArray) ++ Qgo op ++ { data := #[32] }) (by simp only [QU]; omega)
  have c3 := T.Qmw c hx.2.1 i j hij h hi hj hG true ((tx ++ a.txt) ++ (({ data := #[32] } : ByteArray) ++ Qgo op ++ { data := #[32] })) (by simp only [QU]; omega)
  rw [Wri] at c1 c3
  have z0 : (op == 0) = false := by simp; omega
  have z1 : (op == 1) = false := by simp; omega
  have z2 : (op == 2) = false := by simp; omega
  have z11 : (op == 11) = false := by simp; omega
  have z12 : (op == 12) = false := by simp; omega
  have hsa1 := fun xo yo => QbL Tryz.prog 9 xo yo ({ data := #[32] } : ByteArray) (Qgo op) (by omega)
  have hsa2 := fun xo yo => QbL Tryz.prog 9 xo yo (({ data := #[32] } : ByteArray) ++ Qgo op) { data := #[32] } (by rw [QU]; omega)
  have ga : (avs [a, c])[0]? = some a.av := rfl
  have gc : (avs [a, c])[1]? = some c.av := rfl
  have hll : (avs [a, c]).length = 2 := rfl
  have y0 : ((0 : Int) ≤ 1) = True := by simp
  have y1 : ((0 : Int) < ((2 : Nat) : Int)) = True := by simp
  have y2 : ((1 : Int) < ((2 : Nat) : Int)) = True := by simp
  refine Qe Tryz.func38 rfl Tryz.call38 Tryz.ntmps38 (congrArg Array.toList Tryz.results38) (by simp) ?_
  repeat (first | ((first | (with_reducible (first | refine Qa fun K E hK hE => ?_ | refine Qr fun K E hK hE => ?_ | refine QZ cb ?_ | refine FunW.ret (FunW.call c1) ?_ | refine FunW.ret (FunW.call c3) ?_ | refine XB (FunW.call c2) YX ?_)) | (refine QP (id := 2) [(0, 0), (1, 0), (2, 0), (3, 0), (4, 0), (5, 1), (6, 0), (7, 0), (8, 2)] mixed (by kernel_rfl) fun K hK => ?_)); simp -implicitDefEqProofs only [Q1, QX, Q8, Qd, Qb, Qf, OpW, QQ, aop, undef, AS.ev, Qc, Qn, QO, Qg, Qv, QmZ, Qni, Qo, ↓reduceIte, Qm5, Qm6, Nat.reduceAdd, Nat.reduceLT, Nat.reduceLeDiff, Nat.reduceEqDiff, Qm4, Qnh, Qnq, Ql, QG, QH, Xg, aBin, QmS, QmT, QmU, QmV, Qm7, Qnb, QR, Int.toNat_zero, Int.toNat_one, T.Qmp, T.Qmq, ti3, ti22, ei22, ti24, ZQ, QcO, Zd, QnF, QC, k1, f6, z0, z1, z2, z11, z12, hsa1, hsa2, ga, gc, hll, y0, y1, y2, T.Qmq, T.Qmp]) | (with_reducible (first | refine Qq ?_ | refine QF ?_)) | ((with_reducible refine hK _ ?_); clear hK) | (refine Qk rfl ?_; simp only [↓reduceIte, QmW]))
  simp -implicitDefEqProofs only [QmU, QmY, List.mapM_nil, Option.pure_def, QmU, QN, Qp, Qm2]
  exact .inr ⟨rfl, by simp only [ByteArray.append_assoc]⟩
end
end Go.Proofs.YtehjodmnajgdgaaGreatDoor.Ab
set_option maxRecDepth 4000
namespace Go.Proofs.YtehjodmnajgdgaaGreatDoor.Ab
open Go.Proofs
theorem Qeh (g : G) : Pure Tryz.prog 37 [g.goal] (.b (XN g)) := by
  intro h
  refine Qe Tryz.func37 rfl Tryz.call37 Tryz.ntmps37 (congrArg Array.toList Tryz.results37) (by simp) ?_
  iterate 4 (try (first | (((with_reducible refine Qa fun K E hK hE => ?_)); simp -implicitDefEqProofs only [Qd, Qb, Qf, OpW, aop, undef, AS.ev, Qc, Qn, Qt, Qv, QmZ, AV.Qmr, Qnc, Qnd, Qs, Qu, QI, Qne, ↓reduceIte, Qm5, Qm6, Nat.reduceAdd, Nat.reduceLT, Qm4, XC]) | ((with_reducible refine hK _ ?_); clear hK)))
  refine Yt (fun s => g.op ≠ 0 ∧ s.tm 1 = .ptr h.length 0 0 ∧ s.tm 3 = .i (Qaj g.op) ∧ s.h = h ++ [.cells 30 3 [g.goal]]) ?_ ?_
  · rintro ⟨tm, hp⟩ ⟨k0, t1, t3, hh⟩
    dsimp only at t1 t3 hh
    subst hh
    cases p0 : decide (g.op > 0)
    · skip
      have R : XN g = false := by
        rw [XN, if_neg k0, decide_eq_false (by simp at p0; omega)]; rfl
      iterate 2 (try (first | (((with_reducible refine Qa fun K E hK hE => ?_)); simp -implicitDefEqProofs only [Qd, Qb, Qf, OpW, aop, AS.ev, Qc, Qn, Qg, AV.Qmr, Qo, QT, QB, Qnc, Qnd, Qs, Qne, ↓reduceIte, Qm5, Qm6, Nat.reduceLT, Nat.reduceLeDiff, Qm4, Qnq, Xn, XE, hlen, happ, QmS, QmU, Qm7, Qnb, Qnk, Qnj, Qnl, Qna, Qm1, Qm9, zi91, sp91]) | ((with_reducible refine hK _ ?_); clear hK)))
      (with_reducible refine Qa fun K E hK hE => ?_)
      (try simp only [Qnt]); refine Qy 8 (fun K1 hK1 => ?_); simp -implicitDefEqProofs only [Qd, Qb, Qf, OpW, aop, undef, AS.ev, Qc, Qn, Qt, Qg, ↓reduceIte, Nat.reduceLT, Nat.reduceEqDiff, Qnh, Ql, QG, QH, aBin, Q0, QmS, QmT, QmU, QmX, QmV, Qm3, Qna, Xr, QmW, beq_true, ti3, ZQ, XC, t1, p0]; refine hK1 _ ?_; clear hK1
      (try simp only [Qm1, Qm9]); refine Qy 6 (fun K1 hK1 => ?_); simp -implicitDefEqProofs only [Qd, Qb, Qf, OpW, aop, undef, AS.ev, Qc, Qt, Qg, ↓reduceIte, Nat.reduceLT, Nat.reduceEqDiff, QmS, QmT, QmX, QmV, Qm3, Qna, QmW, beq_true]; refine hK1 _ ?_; clear hK1
      (try simp only [Qm1, Qm9]); refine Qy 6 (fun K1 hK1 => ?_); simp -implicitDefEqProofs only [Qd, Qb, Qf, OpW, aop, undef, AS.ev, Qc, Qt, Qg, ↓reduceIte, Nat.reduceLT, Nat.reduceEqDiff, QmS, QmT, QmX, QmV, Qm3, Qna, QmW, beq_true]; refine hK1 _ ?_; clear hK1
      (try simp only [Qm1, Qm9])
      simp -implicitDefEqProofs only [Qd, Qb, Qf, OpW, aop, undef, AS.ev, Qc, Qt, Qg, ↓reduceIte, Nat.reduceLT, Nat.reduceEqDiff, QmS, QmT, QmX, QmV, QmW, beq_true]
      repeat (first | (with_reducible refine Qm ?_) | ((with_reducible refine hK _ ?_); clear hK))
      simp only [QN, Qp, Qw, upd, ↓reduceIte, QmY, Qm2]; first | refine Qh (htake _ _) (.keep (.v _)) ⟨by rw [R], rfl⟩ | refine Qh List.take_length (.keep (.v _)) ⟨by rw [R], rfl⟩
    cases p1 : decide (g.op ≤ 12)
    · skip
      have R : XN g = false := by
        rw [XN, if_neg k0, decide_eq_false (by simp at p1; omega)]; rfl
      iterate 2 (try (first | (((with_reducible refine Qa fun K E hK hE => ?_)); simp -implicitDefEqProofs only [Qd, Qb, Qf, OpW, aop, AS.ev, Qc, Qn, Qg, AV.Qmr, Qo, QT, QB, Qnc, Qnd, Qs, Qne, ↓reduceIte, Qm5, Qm6, Nat.reduceLT, Nat.reduceLeDiff, Qm4, Qnq, Xn, XE, hlen, happ, QmS, QmU, Qm7, Qnb, Qnk, Qnj, Qnl, Qna, Qm1, Qm9, zi91, sp91]) | ((with_reducible refine hK _ ?_); clear hK)))
      (with_reducible refine Qa fun K E hK hE => ?_)
      (try simp only [Qnt]); refine Qy 8 (fun K1 hK1 => ?_); simp -implicitDefEqProofs only [Qd, Qb, Qf, OpW, aop, AS.ev, Qc, Qn, Qg, ↓reduceIte, Nat.reduceLT, Nat.reduceEqDiff, Qnh, Ql, QG, QH, aBin, Q0, QmS, QmT, QmU, QmX, QmV, Qm3, Qna, Q9, Xr, Qm0, ti3, ZQ, XC, t1, p0, p1]; refine hK1 _ ?_; clear hK1
      (try simp only [Qm1, Qm9]); refine Qy 6 (fun K1 hK1 => ?_); simp -implicitDefEqProofs only [Qd, Qb, Qf, OpW, aop, undef, AS.ev, Qc, Qt, Qg, ↓reduceIte, Nat.reduceLT, Nat.reduceEqDiff, QmS, QmT, QmX, QmV, Qm3, Qna, QmW, beq_true]; refine hK1 _ ?_; clear hK1
      (try simp only [Qm1, Qm9]); refine Qy 6 (fun K1 hK1 => ?_); simp -implicitDefEqProofs only [Qd, Qb, Qf, OpW, aop, undef, AS.ev, Qc, Qt, Qg, ↓reduceIte, Nat.reduceLT, Nat.reduceEqDiff, QmS, QmT, QmX, QmV, Qm3, Qna, QmW, beq_true]; refine hK1 _ ?_; clear hK1
      (try simp only [Qm1, Qm9])
      simp -implicitDefEqProofs only [Qd, Qb, Qf, OpW, aop, undef, AS.ev, Qc, Qt, Qg, ↓reduceIte, Nat.reduceLT, Nat.reduceEqDiff, QmS, QmT, QmX, QmV, QmW, beq_true]
      repeat (first | (with_reducible refine Qm ?_) | ((with_reducible refine hK _ ?_); clear hK))
      simp only [QN, Qp, Qw, upd, ↓reduceIte, QmY, Qm2]; first | refine Qh (htake _ _) (.keep (.v _)) ⟨by rw [R], rfl⟩ | refine Qh List.take_length (.keep (.v _)) ⟨by rw [R], rfl⟩
    have p2 : decide (0 < g.op ∧ g.op ≤ 12) = true := decide_eq_true ⟨of_decide_eq_true p0, of_decide_eq_true p1⟩
    cases c3 : ZX g.name
    · have c3' : (g.name.toList == ({ data := #[] } : ByteArray).toList) = false := c3
      have R : XN g = false := by
        rw [XN, if_neg k0, p2, c3]; rfl
      iterate 2 (try (first | (((with_reducible refine Qa fun K E hK hE => ?_)); simp -implicitDefEqProofs only [Qd, Qb, Qf, OpW, aop, AS.ev, Qc, Qn, Qg, AV.Qmr, Qo, QT, QB, Qnc, Qnd, Qs, Qne, ↓reduceIte, Qm5, Qm6, Nat.reduceLT, Nat.reduceLeDiff, Qm4, Qnq, Xn, XE, hlen, happ, QmS, QmU, Qm7, Qnb, Qnk, Qnj, Qnl, Qna, Qm1, Qm9, zi91, sp91]) | ((with_reducible refine hK _ ?_); clear hK)))
      (with_reducible refine Qa fun K E hK hE => ?_)
      (try simp only [Qnt]); refine Qy 8 (fun K1 hK1 => ?_); simp -implicitDefEqProofs only [Qd, Qb, Qf, OpW, aop, AS.ev, Qc, Qn, Qg, ↓reduceIte, Nat.reduceLT, Nat.reduceEqDiff, Qnh, Ql, QG, QH, aBin, Q0, QmS, QmT, QmU, QmX, QmV, Qm3, Qna, Q9, Xr, Qm0, ti3, ZQ, XC, t1, p0, p1]; refine hK1 _ ?_; clear hK1
      (try simp only [Qm1, Qm9]); refine Qy 6 (fun K1 hK1 => ?_); simp -implicitDefEqProofs only [Qd, Qb, Qf, OpW, aop, AS.ev, Qc, QO, Qg, ↓reduceIte, Nat.reduceLT, Nat.reduceEqDiff, Qm4, Ql, QG, QH, aBin, Q0, QmS, QmT, QmU, QmX, QmV, Qm3, Qna, QY, Qm0, ti9, QgF, XC, t1, c3']; refine hK1 _ ?_; clear hK1
      (try simp only [Qm1, Qm9]); refine Qy 6 (fun K1 hK1 => ?_); simp -implicitDefEqProofs only [Qd, Qb, Qf, OpW, aop, undef, AS.ev, Qc, Qt, Qg, ↓reduceIte, Nat.reduceLT, Nat.reduceEqDiff, QmS, QmT, QmX, QmV, Qm3, Qna, QmW, beq_true]; refine hK1 _ ?_; clear hK1
      (try simp only [Qm1, Qm9])
      simp -implicitDefEqProofs only [Qd, Qb, Qf, OpW, aop, undef, AS.ev, Qc, Qt, Qg, ↓reduceIte, Nat.reduceLT, Nat.reduceEqDiff, QmS, QmT, QmX, QmV, QmW, beq_true]
      repeat (first | (with_reducible refine Qm ?_) | ((with_reducible refine hK _ ?_); clear hK))
      simp only [QN, Qp, Qw, upd, ↓reduceIte, QmY, Qm2]; first | refine Qh (htake _ _) (.keep (.v _)) ⟨by rw [R], rfl⟩ | refine Qh List.take_length (.keep (.v _)) ⟨by rw [R], rfl⟩
    have c3' : (g.name.toList == ({ data := #[] } : ByteArray).toList) = true := c3
    cases c4 : ((g.args.length : Int) == Qaj g.op)
    · have c5 : decide ((g.args.length : Int) = Qaj g.op) = false := decide_eq_false (by simpa using c4)
      have R : XN g = false := by
        rw [XN, if_neg k0, p2, c3, c5]; rfl
      iterate 2 (try (first | (((with_reducible refine Qa fun K E hK hE => ?_)); simp -implicitDefEqProofs only [Qd, Qb, Qf, OpW, aop, AS.ev, Qc, Qn, Qg, AV.Qmr, Qo, QT, QB, Qnc, Qnd, Qs, Qne, ↓reduceIte, Qm5, Qm6, Nat.reduceLT, Nat.reduceLeDiff, Qm4, Qnq, Xn, XE, hlen, happ, QmS, QmU, Qm7, Qnb, Qnk, Qnj, Qnl, Qna, Qm1, Qm9, zi91, sp91]) | ((with_reducible refine hK _ ?_); clear hK)))
      (with_reducible refine Qa fun K E hK hE => ?_)
      (try simp only [Qnt]); refine Qy 8 (fun K1 hK1 => ?_); simp -implicitDefEqProofs only [Qd, Qb, Qf, OpW, aop, AS.ev, Qc, Qn, Qg, ↓reduceIte, Nat.reduceLT, Nat.reduceEqDiff, Qnh, Ql, QG, QH, aBin, Q0, QmS, QmT, QmU, QmX, QmV, Qm3, Qna, Q9, Xr, Qm0, ti3, ZQ, XC, t1, p0, p1]; refine hK1 _ ?_; clear hK1
      (try simp only [Qm1, Qm9]); refine Qy 6 (fun K1 hK1 => ?_); simp -implicitDefEqProofs only [Qd, Qb, Qf, OpW, aop, AS.ev, Qc, QO, Qg, ↓reduceIte, Nat.reduceLT, Nat.reduceEqDiff, Qm4, Ql, QG, QH, aBin, Q0, QmS, QmT, QmU, QmX, QmV, Qm3, Qna, QY, Qm0, ti9, QgF, XC, t1, c3']; refine hK1 _ ?_; clear hK1
      (try simp only [Qm1, Qm9]); refine Qy 6 (fun K1 hK1 => ?_); simp -implicitDefEqProofs only [Qd, Qb, Qf, OpW, aop, AS.ev, Qc, Qg, ↓reduceIte, Nat.reduceLT, Nat.reduceEqDiff, Qm4, Ql, QG, QH, aBin, aLen, Q0, QmS, QmT, QmU, QmX, QmV, Qm3, Qna, QR, goInt, Qm0, QK, ti22, un22, QcO, XC, QK, t1, t3, c4]; refine hK1 _ ?_; clear hK1
      (try simp only [Qm1, Qm9])
      simp -implicitDefEqProofs only [Qd, Qb, Qf, OpW, aop, undef, AS.ev, Qc, Qt, Qg, ↓reduceIte, Nat.reduceLT, Nat.reduceEqDiff, QmS, QmT, QmX, QmV, QmW, beq_true]
      repeat (first | (with_reducible refine Qm ?_) | ((with_reducible refine hK _ ?_); clear hK))
      simp only [QN, Qp, Qw, upd, ↓reduceIte, QmY, Qm2]; first | refine Qh (htake _ _) (.keep (.v _)) ⟨by rw [R], rfl⟩ | refine Qh List.take_length (.keep (.v _)) ⟨by rw [R], rfl⟩
    have c5 : decide ((g.args.length : Int) = Qaj g.op) = true := decide_eq_true (by simpa using c4)
    have c6 : (g.args.length : Int) ≤ 2 := by
      have c7 : (g.args.length : Int) = Qaj g.op := by simpa using c4
      rw [c7, Qaj]; split <;> (try split) <;> decide
    have ca := Qlc g.args (by omega) (h ++ [.cells 30 3 [g.goal], .cells 91 1 [.agg [.i 200]]]) (h.length + 1) (by rw [hget]; rfl)
    rw [hset] at ca
    have R : XN g = (runL g.args 200 20).1 := by
      rw [XN, if_neg k0, p2, c3, c5]; rfl
    iterate 2 (try (first | (((with_reducible refine Qa fun K E hK hE => ?_)); simp -implicitDefEqProofs only [Qd, Qb, Qf, OpW, aop, AS.ev, Qc, Qn, Qg, AV.Qmr, Qo, QT, QB, Qnc, Qnd, Qs, Qne, ↓reduceIte, Qm5, Qm6, Nat.reduceLT, Nat.reduceLeDiff, Qm4, Qnq, Xn, XE, hlen, happ, QmS, QmU, Qm7, Qnb, Qnk, Qnj, Qnl, Qna, Qm1, Qm9, zi91, sp91]) | ((with_reducible refine hK _ ?_); clear hK)))
    (with_reducible refine Qa fun K E hK hE => ?_)
    (try simp only [Qnt]); refine Qy 8 (fun K1 hK1 => ?_); simp -implicitDefEqProofs only [Qd, Qb, Qf, OpW, aop, AS.ev, Qc, Qn, Qg, ↓reduceIte, Nat.reduceLT, Nat.reduceEqDiff, Qnh, Ql, QG, QH, aBin, Q0, QmS, QmT, QmU, QmX, QmV, Qm3, Qna, Q9, Xr, Qm0, ti3, ZQ, XC, t1, p0, p1]; refine hK1 _ ?_; clear hK1
    (try simp only [Qm1, Qm9]); refine Qy 6 (fun K1 hK1 => ?_); simp -implicitDefEqProofs only [Qd, Qb, Qf, OpW, aop, AS.ev, Qc, QO, Qg, ↓reduceIte, Nat.reduceLT, Nat.reduceEqDiff, Qm4, Ql, QG, QH, aBin, Q0, QmS, QmT, QmU, QmX, QmV, Qm3, Qna, QY, Qm0, ti9, QgF, XC, t1, c3']; refine hK1 _ ?_; clear hK1
    (try simp only [Qm1, Qm9]); refine Qy 6 (fun K1 hK1 => ?_); simp -implicitDefEqProofs only [Qd, Qb, Qf, OpW, aop, AS.ev, Qc, Qg, ↓reduceIte, Nat.reduceLT, Nat.reduceEqDiff, Qm4, Ql, QG, QH, aBin, aLen, Q0, QmS, QmT, QmU, QmX, QmV, Qm3, Qna, QR, goInt, Qm0, QK, ti22, un22, QcO, XC, QK, t1, t3, c4]; refine hK1 _ ?_; clear hK1
    (try simp only [Qm1, Qm9])
    simp -implicitDefEqProofs only [Qb, Qf, OpW, aop, AS.ev, Qc, Qn, Qg, ↓reduceIte, Nat.reduceLT, Nat.reduceEqDiff, Qm4, Ql, QG, QH, Q0, QmS, QmT, QmU, QmX, QmV, Qm7, Qnb, Qm0, ti22, QcO, XC, t1]
    repeat (first | (((with_reducible refine FunW.ret (FunW.call ca) ?_)); simp -implicitDefEqProofs only [Qd, Qb, Qf, OpW, QQ, aop, AS.ev, Qc, Qg, ↓reduceIte, Nat.reduceLT, Nat.reduceEqDiff, Qnm, Qnn]) | (with_reducible refine Qm ?_) | ((with_reducible refine hK _ ?_); clear hK))
    simp only [QN, Qp, Qw, upd, ↓reduceIte, QmY, Qm2]; first | refine Qh (htake _ _) (.keep (.v _)) ⟨by rw [R], rfl⟩ | refine Qh List.take_length (.keep (.v _)) ⟨by rw [R], rfl⟩
  · by_cases k0 : g.op = 0
    · have c := Qak ⟨0, g.name, g.args⟩
      rw [show G.atom ⟨0, g.name, g.args⟩ = AV.agg [.v (.string g.name), .sl 4 (avs g.args) none] from rfl] at c
      have R : XN g = Xc ⟨0, g.name, g.args⟩ := by
        rw [XN, if_pos k0]
      have z0 : (g.op == 0) = true := by simp [k0]
      repeat (first | ((first | (with_reducible (first | refine Qa fun K E hK hE => ?_ | refine Qz c ?_))); simp -implicitDefEqProofs only [Qd, Qb, Qf, OpW, QQ, aop, undef, AS.ev, Qc, Qn, Qg, Qv, AV.Qmr, Qo, QT, Xv, QB, Qnc, Qnd, Qu, QE, QI, Qne, ↓reduceIte, Qm5, Qm6, Nat.reduceAdd, Nat.reduceLT, Nat.reduceLeDiff, Nat.reduceEqDiff, Qm4, Qnh, Qnq, Ql, QG, QH, aBin, Xn, XE, Q0, QmS, QmT, QmU, Qm7, Qnb, Qnk, Qnj, Qnl, Qm3, Qna, Qm1, Qm9, QR, ti3, ti9, ti22, ZQ, QgF, QcO, zi34, sp34, XC, z0]) | (with_reducible (first | refine Qq ?_ | refine Qm ?_ | refine QA ?_ | refine QJ ?_)) | ((with_reducible refine hK _ ?_); clear hK) | (refine Qk rfl ?_; simp only [↓reduceIte]))
      simp only [QN, Qp, Qw, upd, ↓reduceIte, QmY, Qm2]; first | refine Qh (htake _ _) (.keep (.v _)) ⟨by rw [R], rfl⟩ | refine Qh List.take_length (.keep (.v _)) ⟨by rw [R], rfl⟩
    have z0 : (g.op == 0) = false := by simp [k0]
    by_cases k1 : g.op = 1
    · have z1 : (g.op == 1) = true := by simp [k1]
      have gn : Qaj g.op = 0 := by simp [Qaj, k1]
      repeat (first | ((first | (with_reducible (first | refine Qa fun K E hK hE => ?_ | refine Qr fun K E hK hE => ?_))); simp -implicitDefEqProofs only [Qd, Qb, Qf, OpW, aop, AS.ev, Qc, Qn, Qg, ↓reduceIte, Nat.reduceLT, Nat.reduceEqDiff, Qnh, Ql, QG, QH, aBin, Q0, QmS, QmU, QR, ti3, ZQ, XC, z0, z1]) | (with_reducible (first | refine Qi fun K hK => ?_ | refine Qq ?_ | refine QD ?_ | refine Qj ?_ | refine QF ?_)) | ((with_reducible refine hK _ ?_); clear hK) | (refine Qk rfl ?_; simp only [↓reduceIte, QmW]))
      exact ⟨k0, rfl, by rw [gn]; rfl, rfl⟩
    have z1 : (g.op == 1) = false := by simp [k1]
    by_cases k2 : g.op = 2
    · have z2 : (g.op == 2) = true := by simp [k2]
      have gn : Qaj g.op = 0 := by simp [Qaj, k2]
      repeat (first | ((first | (with_reducible (first | refine Qa fun K E hK hE => ?_ | refine Qr fun K E hK hE => ?_))); simp -implicitDefEqProofs only [Qd, Qb, Qf, OpW, aop, AS.ev, Qc, Qn, Qg, ↓reduceIte, Nat.reduceLT, Nat.reduceEqDiff, Qnh, Ql, QG, QH, aBin, Q0, QmS, QmU, QR, ti3, ZQ, XC, z0, z1, z2]) | (with_reducible (first | refine Qi fun K hK => ?_ | refine Qq ?_ | refine Qj ?_ | refine QF ?_)) | ((with_reducible refine hK _ ?_); clear hK) | (refine Qk rfl ?_; simp only [↓reduceIte, QmW]))
      exact ⟨k0, rfl, by rw [gn]; rfl, rfl⟩
    have z2 : (g.op == 2) = false := by simp [k2]
    by_cases k11 : g.op = 11
    · have z11 : (g.op == 11) = true := by simp [k11]
      have gn : Qaj g.op = 1 := by simp [Qaj, k11]
      repeat (first | ((first | (with_reducible (first | refine Qa fun K E hK hE => ?_ | refine Qr fun K E hK hE => ?_))); simp -implicitDefEqProofs only [Qd, Qb, Qf, OpW, aop, AS.ev, Qc, Qn, Qg, ↓reduceIte, Nat.reduceLT, Nat.reduceEqDiff, Qnh, Ql, QG, QH, aBin, Q0, QmS, QmU, QR, ti3, ZQ, XC, z0, z1, z2, z11]) | (with_reducible (first | refine Qi fun K hK => ?_ | refine Qq ?_ | refine QD ?_ | refine Qj ?_ | refine QF ?_)) | ((with_reducible refine hK _ ?_); clear hK) | (refine Qk rfl ?_; simp only [↓reduceIte, QmW]))
      exact ⟨k0, rfl, by rw [gn]; rfl, rfl⟩
    have z11 : (g.op == 11) = false := by simp [k11]
    by_cases k12 : g.op = 12
    · have z12 : (g.op == 12) = true := by simp [k12]
      have gn : Qaj g.op = 1 := by simp [Qaj, k12]
      repeat (first | ((first | (with_reducible (first | refine Qa fun K E hK hE => ?_ | refine Qr fun K E hK hE => ?_))); simp -implicitDefEqProofs only [Qd, Qb, Qf, OpW, aop, AS.ev, Qc, Qn, Qg, ↓reduceIte, Nat.reduceLT, Nat.reduceEqDiff, Qnh, Ql, QG, QH, aBin, Q0, QmS, QmU, QR, ti3, ZQ, XC, z0, z1, z2, z11, z12]) | (with_reducible (first | refine Qi fun K hK => ?_ | refine Qq ?_ | refine Qj ?_ | refine QF ?_)) | ((with_reducible refine hK _ ?_); clear hK) | (refine Qk rfl ?_; simp only [↓reduceIte, QmW]))
      exact ⟨k0, rfl, by rw [gn]; rfl, rfl⟩
    have z12 : (g.op == 12) = false := by simp [k12]
    have gn : Qaj g.op = 2 := by simp [Qaj, k1, k2, k11, k12]
    repeat (first | ((first | (with_reducible (first | refine Qa fun K E hK hE => ?_ | refine Qr fun K E hK hE => ?_))); simp -implicitDefEqProofs only [Qd, Qb, Qf, OpW, aop, AS.ev, Qc, Qn, Qg, ↓reduceIte, Nat.reduceLT, Nat.reduceEqDiff, Qnh, Ql, QG, QH, aBin, Q0, QmS, QmU, QR, ti3, ZQ, XC, z0, z1, z2, z11, z12]) | (with_reducible (first | refine Qi fun K hK => ?_ | refine Qq ?_ | refine QD ?_ | refine Qj ?_ | refine QF ?_)) | ((with_reducible refine hK _ ?_); clear hK) | (refine Qk rfl ?_; simp only [↓reduceIte, QmW]))
    exact ⟨k0, rfl, by rw [gn]; rfl, rfl⟩
end Go.Proofs.YtehjodmnajgdgaaGreatDoor.Ab
set_option maxRecDepth 4000
namespace Go.Proofs.YtehjodmnajgdgaaGreatDoor.Ab
open Go.Proofs
def txtA (g : G) : ByteArray := if Xc g = true then funT g.name (txts g.args) else { data := #[] }
def txtG (g : G) : ByteArray := if XN g = true then Qaz g else { data := #[] }
theorem QdA {s : ByteArray} {l : List ByteArray} (h0 : 1 ≤ s.size) : 1 ≤ (funT s l).size := by rw [funT, QU]; omega
theorem Qhm (s : ByteArray) (l : List ByteArray) : (funT s l).size ≤ s.size + 2 + (l.map fun x => x.size + 2).sum := by
  rw [funT, QU]
  have e1 := QeW (decide (0 < l.length)) (Qan true l)
  have e2 := QhK l true
  omega
theorem QhR {g : G} (h : Xc g = true) : lexL g.args ∧ g.args.length ≤ 6 ∧ 1 ≤ (funT g.name (txts g.args)).size ∧ (funT g.name (txts g.args)).size ≤ 15000 := by
  simp only [Xc, Bool.and_eq_true, decide_eq_true_eq] at h
  obtain ⟨h1, h2, h3⟩ := h
  have hn := QbP h1
  have hl := Qc7 g.args 200 20 h3
  have hr := Qde g.args 200 20 (by omega) h3
  refine ⟨hl.1, h2, QdA hn.1, ?_⟩
  have := Qhm g.name (txts g.args)
  have := hl.2.1
  omega
theorem Qfx {h : AH} (hG : X9 h) (b : AB) : X9 (HB (h ++ [b] ++ [AB.dead, AB.dead]) (h ++ [b]).length ((h ++ [b]).length + 1) true (.empty)) := QlW (hG.app [b]) _ _
theorem Qe6 (g : G) (hl : g.args.length ≤ 1000000) (h : AH) (hG : X9 h) : Xf Tryz.prog 16 [g.atom] h fun o h' => o = .ret (.v (.string (txtA g))) ∧ h' = h := by
  have cr := Qak g
  cases hr : Xc g with
  | false =>
    rw [hr] at cr
    have c1 := Qhb (.fn (.func 46) [] [.ptr h.length 0 0])
    refine Qe Tryz.func16 rfl Tryz.call16 Tryz.ntmps16 (congrArg Array.toList Tryz.results16) (by simp) ?_
    repeat (first | ((first | (with_reducible (first | refine Qa fun K E hK hE => ?_ | refine Qz cr ?_ | refine Qz c1 ?_))); simp -implicitDefEqProofs only [Qd, Qb, Qf, OpW, QQ, aop, undef, AS.ev, Qc, QO, Qg, Qv, QmZ, AV.Qmr, Qnc, Qnd, Qu, QI, Qne, ↓reduceIte, Qm5, Qm6, Nat.reduceAdd, Nat.reduceLT, Nat.reduceEqDiff, Qm4, Qnq, QG, QH, Q0, QmS, QmU, Qm7, Qnb, ti34, Xy, Yc]) | (with_reducible refine Qm ?_) | ((with_reducible refine hK _ ?_); clear hK))
    simp only [QN, Qp, Qw, upd, ↓reduceIte, QmY, Qm2]; first | refine Qh (htake _ _) (.keep (.v _)) ⟨by rw [txtA, if_neg (by rw [hr]; decide)], rfl⟩ | refine Qh List.take_length (.keep (.v _)) ⟨by rw [txtA, if_neg (by rw [hr]; decide)], rfl⟩
  | true =>
    rw [hr] at cr
    obtain ⟨hx, h6, hs0, hs1⟩ := QhR hr
    have hk := Qj8 (h := h ++ [AB.cells 34 2 [g.atom]] ++ [AB.dead, AB.dead]) (i := (h ++ [AB.cells 34 2 [g.atom]]).length) (j := (h ++ [AB.cells 34 2 [g.atom]]).length + 1) (p := h.length)
      (by simp) (by simp) (by omega) (by simp) (by simp; omega) g (by simp) hx hl (Qfx hG _) false .empty (by rw [show (ByteArray.empty).size = 0 from rfl]; omega)
    rw [Wri, ByteArray.empty_append] at hk
    have c1 := Qff (.fn (.func 46) [] [.ptr h.length 0 0]) (.tup []) (funT g.name (txts g.args)) (h ++ [AB.cells 34 2 [g.atom]]) hs0 (by omega) (FunW.fn hk)
    refine Qe Tryz.func16 rfl Tryz.call16 Tryz.ntmps16 (congrArg Array.toList Tryz.results16) (by simp) ?_
    repeat (first | ((first | (with_reducible (first | refine Qa fun K E hK hE => ?_ | refine Qz cr ?_ | refine FunW.ret (FunW.call c1) ?_))); simp -implicitDefEqProofs only [Qd, Qb, Qf, OpW, QQ, aop, undef, AS.ev, Qc, QO, Qg, Qv, QmZ, AV.Qmr, Qnc, Qnd, Qu, QI, Qne, ↓reduceIte, Qm5, Qm6, Nat.reduceAdd, Nat.reduceLT, Nat.reduceEqDiff, Qm4, Qnq, QG, QH, Q0, QmS, QmU, Qm7, Qnb, ti34, Xy, Yc]) | (with_reducible refine Qm ?_) | ((with_reducible refine hK _ ?_); clear hK))
    simp only [QN, Qp, Qw, upd, ↓reduceIte, QmY, Qm2]; first | refine Qh (htake _ _) (.keep (.v _)) ⟨by rw [txtA, if_pos hr], rfl⟩ | refine Qh List.take_length (.keep (.v _)) ⟨by rw [txtA, if_pos hr], rfl⟩
theorem Qhq {g : G} (h : XN g = true) : lexL g.args ∧ g.args.length ≤ 6 ∧ 1 ≤ (Qaz g).size ∧ (Qaz g).size ≤ 15000 ∧
    (g.op = 0 ∨ g.op = 1 ∨ g.op = 2 ∨ g.op = 11 ∨ g.op = 12 ∨ (3 ≤ g.op ∧ g.op ≤ 10 ∧ g.args.length = 2)) := by
  rw [XN] at h
  by_cases k0 : g.op = 0
  · rw [if_pos k0] at h
    obtain ⟨h1, h2, h3, h4⟩ := QhR h
    rw [Qaz, if_pos k0]
    exact ⟨h1, h2, h3, h4, .inl k0⟩
  rw [if_neg k0] at h
  simp only [Bool.and_eq_true, decide_eq_true_eq] at h
  obtain ⟨h1, hn, h2, h3⟩ := h
  have hl := Qc7 g.args 200 20 h3
  have hr := Qde g.args 200 20 (by omega) h3
  have hgn : Qaj g.op ≤ 2 := by rw [Qaj]; split <;> (try split) <;> decide
  refine ⟨hl.1, by omega, ?_⟩
  rw [Qaz, if_neg k0]
  by_cases k1 : g.op = 1
  · rw [if_pos k1]; exact ⟨by decide, by decide, by omega⟩
  rw [if_neg k1]
  by_cases k2 : g.op = 2
  · rw [if_pos k2]; exact ⟨by decide, by decide, by omega⟩
  rw [if_neg k2]
  have hl2 := hl.2.1
  by_cases k11 : g.op = 11
  · rw [if_pos k11]
    refine ⟨QdA (by decide), ?_, by omega⟩
    have := Qhm intB (txts g.args)
    have : intB.size = 3 := rfl
    omega
  rw [if_neg k11]
  by_cases k12 : g.op = 12
  · rw [if_pos k12]
    refine ⟨QdA (by decide), ?_, by omega⟩
    have := Qhm grdB (txts g.args)
    have : grdB.size = 6 := rfl
    omega
  rw [if_neg k12]
  have hn2 : g.args.length = 2 := by
    have : Qaj g.op = 2 := by simp [Qaj, k1, k2, k11, k12]
    omega
  have hb := Qen g.op (by omega) (by omega)
  match hg : g.args, hn2 with
  | [a, c], _ =>
    rw [hg] at hl2 hr
    simp only [txts, pairT, QU, Qm7, Qnb, List.sum_cons, List.sum_nil] at hl2 ⊢
    have : ({ data := #[32] } : ByteArray).size = 1 := rfl
    refine ⟨by omega, by omega, .inr (.inr (.inr (.inr (.inr ⟨by omega, by omega, rfl⟩))))⟩
theorem Qjs {h : AH} {i j p : Nat} (hi : i < h.length) (hj : j < h.length) (hij : i ≠ j) (hpi : i ≠ p) (hpj : j ≠ p) (g : G) (gp : h[p]? = some (.cells 30 3 [g.goal])) (hr : XN g = true)
    (hG : X9 (HB h i j true (.empty))) (u : Bool) (tx : ByteArray) (hs : tx.size + (Qaz g).size ≤ 140737488355328) :
    Wri 38 [.ptr i 0 0, .ptr p 0 0] h i j u tx (Qaz g) := by
  obtain ⟨hx, hl, _, _, ho⟩ := Qhq hr
  have hl' : g.args.length ≤ 1000000 := by omega
  rcases ho with ho | ho | ho | ho | ho | ⟨h3, h10, h2⟩
  · have e : Qaz g = funT g.name (txts g.args) := by simp [Qaz, ho]
    rw [e] at hs ⊢; exact Qiu hi hj hij hpi hpj g gp hx hl' ho hG u tx hs
  · have e : Qaz g = Qj3 := by simp [Qaz, ho]
    rw [e] at hs ⊢; exact Qig hi hj hij hpi hpj g gp hx hl' ho hG u tx hs
  · have e : Qaz g = Qkm := by simp [Qaz, ho]
    rw [e] at hs ⊢; exact Qih hi hj hij hpi hpj g gp hx hl' ho hG u tx hs
  · have e : Qaz g = funT intB (txts g.args) := by simp [Qaz, ho]
    rw [e] at hs ⊢; exact QiG hi hj hij hpi hpj g gp hx hl' ho hG u tx hs
  · have e : Qaz g = funT grdB (txts g.args) := by simp [Qaz, ho]
    rw [e] at hs ⊢; exact Qf5 hi hj hij hpi hpj g gp hx hl' ho hG u tx hs
  · have e : Qaz g = pairT g.op (txts g.args) := by
      rw [Qaz, if_neg (by omega), if_neg (by omega), if_neg (by omega), if_neg (by omega), if_neg (by omega)]
    rw [e] at hs ⊢
    obtain ⟨op, n, l⟩ := g
    match l, h2 with
    | [a, c], _ => exact Qis hi hj hij hpi hpj op n a c gp hx h3 h10 hG u tx hs
theorem Qe5 (g : G) (hl : g.args.length ≤ 1000000) (h : AH) (hG : X9 h) : Xf Tryz.prog 14 [g.goal] h fun o h' => o = .ret (.v (.string (txtG g))) ∧ h' = h := by
  have cr := Qeh g
  cases hr : XN g with
  | false =>
    rw [hr] at cr
    have c1 := Qhb (.fn (.func 38) [] [.ptr h.length 0 0])
    refine Qe Tryz.func14 rfl Tryz.call14 Tryz.ntmps14 (congrArg Array.toList Tryz.results14) (by simp) ?_
    repeat (first | ((first | (with_reducible (first | refine Qa fun K E hK hE => ?_ | refine Qz cr ?_ | refine Qz c1 ?_))); simp -implicitDefEqProofs only [Qd, Qb, Qf, OpW, QQ, aop, undef, AS.ev, Qc, QO, Qg, Qv, QmZ, AV.Qmr, Qnc, Qnd, Qs, Qu, QI, Qne, ↓reduceIte, Qm5, Qm6, Nat.reduceAdd, Nat.reduceLT, Nat.reduceEqDiff, Qm4, Qnq, QG, QH, Q0, QmS, QmU, Qm7, Qnb, ti30, XC, Qet]) | (with_reducible refine Qm ?_) | ((with_reducible refine hK _ ?_); clear hK))
    simp only [QN, Qp, Qw, upd, ↓reduceIte, QmY, Qm2]; first | refine Qh (htake _ _) (.keep (.v _)) ⟨by rw [txtG, if_neg (by rw [hr]; decide)], rfl⟩ | refine Qh List.take_length (.keep (.v _)) ⟨by rw [txtG, if_neg (by rw [hr]; decide)], rfl⟩
  | true =>
    rw [hr] at cr
    obtain ⟨hx, h6, hs0, hs1, _⟩ := Qhq hr
    have hk := Qjs (h := h ++ [AB.cells 30 3 [g.goal]] ++ [AB.dead, AB.dead]) (i := (h ++ [AB.cells 30 3 [g.goal]]).length) (j := (h ++ [AB.cells 30 3 [g.goal]]).length + 1) (p := h.length)
      (by simp) (by simp) (by omega) (by simp) (by simp; omega) g (by simp) hr (Qfx hG _) false .empty (by rw [show (ByteArray.empty).size = 0 from rfl]; omega)
    rw [Wri, ByteArray.empty_append] at hk
    have c1 := Qff (.fn (.func 38) [] [.ptr h.length 0 0]) (.tup []) (Qaz g) (h ++ [AB.cells 30 3 [g.goal]]) hs0 (by omega) (FunW.fn hk)
    refine Qe Tryz.func14 rfl Tryz.call14 Tryz.ntmps14 (congrArg Array.toList Tryz.results14) (by simp) ?_
    repeat (first | ((first | (with_reducible (first | refine Qa fun K E hK hE => ?_ | refine Qz cr ?_ | refine FunW.ret (FunW.call c1) ?_))); simp -implicitDefEqProofs only [Qd, Qb, Qf, OpW, QQ, aop, undef, AS.ev, Qc, QO, Qg, Qv, QmZ, AV.Qmr, Qnc, Qnd, Qs, Qu, QI, Qne, ↓reduceIte, Qm5, Qm6, Nat.reduceAdd, Nat.reduceLT, Nat.reduceEqDiff, Qm4, Qnq, QG, QH, Q0, QmS, QmU, Qm7, Qnb, ti30, XC, Qet]) | (with_reducible refine Qm ?_) | ((with_reducible refine hK _ ?_); clear hK))
    simp only [QN, Qp, Qw, upd, ↓reduceIte, QmY, Qm2]; first | refine Qh (htake _ _) (.keep (.v _)) ⟨by rw [txtG, if_pos hr], rfl⟩ | refine Qh List.take_length (.keep (.v _)) ⟨by rw [txtG, if_pos hr], rfl⟩
end Go.Proofs.YtehjodmnajgdgaaGreatDoor.Ab
set_option maxRecDepth 4000
namespace Go.Proofs.YtehjodmnajgdgaaGreatDoor.Ab
open Go.Proofs
def i64 (n : Int) : Prop := -9223372036854775808 ≤ n ∧ n ≤ 9223372036854775807
mutual
def T.ok : T → Prop
  | .mk k i n l => i64 k ∧ i64 i ∧ n.size ≤ 9223372036854775807 ∧ oks l
def oks : List T → Prop
  | [] => True
  | t :: l => t.ok ∧ oks l
end
theorem T.ok_eq (t : T) : t.ok ↔ i64 t.kind ∧ i64 t.int ∧ t.name.size ≤ 9223372036854775807 ∧ oks t.args := by cases t; simp only [T.ok, T.kind, T.int, T.name, T.args]
theorem Qhe : ∀ {l : List T} {k : Nat} (h : k < l.length), oks l → (l[k]).ok
  | t :: l, 0, _, h => h.1
  | t :: l, k + 1, h, ho => Qhe (l := l) (by simpa using h) ho.2
def G.ok (g : G) : Prop := i64 g.op ∧ g.name.size ≤ 9223372036854775807 ∧ oks g.args
end Go.Proofs.YtehjodmnajgdgaaGreatDoor.Ab
set_option maxRecDepth 4000
namespace Go.Proofs.YtehjodmnajgdgaaGreatDoor.Ab
open Go.Proofs
def EatN (f : List UInt8 → Res T) : Prop := ∀ r t r2, f r = .ok t r2 → t.ok ∧ t.nds + r2.length ≤ r.length
theorem Qhu : ∀ a b : List T, ndsL (a ++ b) = ndsL a + ndsL b
  | [], b => by simp [ndsL]
  | t :: a, b => by simp only [Qnk, ndsL, Qhu a b]; omega
theorem Qi1 : ∀ a b : List T, oks (a ++ b) ↔ oks a ∧ oks b
  | [], b => by simp [oks]
  | t :: a, b => by simp only [Qnk, oks, Qi1 a b, and_assoc]
theorem Qf3 : i64 0 ∧ i64 1 ∧ i64 2 := by refine ⟨?_, ?_, ?_⟩ <;> (unfold i64; omega)
theorem QgP (k i : Int) (hk : i64 k) (hi : i64 i) : (T.mk k i eB []).ok := ⟨hk, hi, by show (0 : Nat) ≤ _; omega, trivial⟩
theorem Qe3 (k i : Int) : (T.mk k i eB []).nds = 1 := rfl
theorem Qlb (s : Bool) (sign : Int) (hs : sign = 1 ∨ sign = -1) {r r2 : List UInt8} {t : T} (h : pInt s sign r = .ok t r2) (hd : headD r = true) : t.ok ∧ t.nds + r2.length ≤ r.length := by
  have he := Qfp s sign h hd
  cases r with
  | nil => cases hd
  | cons c r =>
    rw [pInt] at h
    split at h
    · split at h
      · cases h
      · cases h
        exact ⟨QgP _ _ Qf3.1 Qf3.1, by rw [Qe3]; omega⟩
    · split at h
      · rename_i hle
        cases h
        refine ⟨QgP _ _ Qf3.1 ?_, by rw [Qe3]; omega⟩
        unfold i64
        rcases hs with rfl | rfl <;> omega
      · cases h
theorem QjX {ex : List UInt8 → Res T} (H : EatN ex) : ∀ (m : Nat) (l : List T) (r : List UInt8) (a : List T) (r2 : List UInt8), oks l → ZZ ex m l r = .ok a r2 → oks a ∧ ndsL a + r2.length + 1 ≤ ndsL l + r.length
  | 0, _, _, _, _, _, h => by cases h
  | m + 1, l, r, a, r2, ho, h => by
    rw [ZZ] at h
    cases hs : QV r with
    | nil => rw [hs] at h; cases h
    | cons c r3 =>
      rw [hs] at h
      have hlt := Xe hs
      simp only at h
      split at h
      · cases he : ex r3 with
        | err e => rw [he] at h; cases h
        | ok t r4 =>
          rw [he] at h
          simp only at h
          obtain ⟨o1, n1⟩ := H _ _ _ he
          obtain ⟨o2, n2⟩ := QjX H m (l ++ [t]) r4 a r2 ((Qi1 _ _).2 ⟨ho, o1, trivial⟩) h
          rw [Qhu] at n2
          simp only [ndsL] at n2
          exact ⟨o2, by omega⟩
      · split at h
        · cases h; exact ⟨ho, by omega⟩
        · cases h
theorem Qln {ex : List UInt8 → Res T} (H : EatN ex) {r r2 : List UInt8} {a : List T} (h : Qaw ex r = .ok a r2) : oks a ∧ ndsL a + r2.length ≤ r.length := by
  rw [Qaw] at h
  cases hs : QV r with
  | nil => rw [hs] at h; cases h; exact ⟨trivial, by simp [ndsL]⟩
  | cons c r3 =>
    rw [hs] at h
    have hlt := Xe hs
    simp only at h
    split at h
    · cases he : ex r3 with
      | err e => rw [he] at h; cases h
      | ok t r4 =>
        rw [he] at h
        simp only at h
        obtain ⟨o1, n1⟩ := H _ _ _ he
        obtain ⟨o2, n2⟩ := QjX H _ [t] r4 a r2 ⟨o1, trivial⟩ h
        simp only [ndsL] at n2
        exact ⟨o2, by omega⟩
    · cases h
      exact ⟨trivial, by simp only [ndsL, Qm5]; omega⟩
theorem Qkj {ex : List UInt8 → Res T} (H : EatN ex) {c : UInt8} (hc : isW c = true) {r r2 : List UInt8} {t : T} (h : Z8 ex (c :: r) = .ok t r2) : t.ok ∧ t.nds + r2.length ≤ (c :: r).length := by
  have hdl : ((c :: r).dropWhile isW).length + 1 ≤ (c :: r).length := by
    have := Z6 isW r
    rw [List.dropWhile_cons, hc]; simp only [if_true, Qm5]; omega
  rw [Z8] at h
  split at h
  · split at h
    · rename_i k hv
      cases h
      refine ⟨QgP _ _ Qf3.2.1 ?_, by rw [Qe3]; omega⟩
      unfold varV at hv
      split at hv
      · split at hv
        · rename_i h2
          cases hv
          unfold i64; have := h2.1; omega
        · cases hv
      · cases hv
    · cases h
  · split at h
    · rename_i hr
      cases ha : Qaw ex ((c :: r).dropWhile isW) with
      | err e => rw [ha] at h; cases h
      | ok l r3 =>
        rw [ha] at h
        cases h
        obtain ⟨o1, n1⟩ := Qln H ha
        have hz := (QbP hr).2
        refine ⟨⟨Qf3.2.2, Qf3.1, by omega, o1⟩, ?_⟩
        simp only [T.nds]; omega
    · cases h
theorem QlN (s : Bool) {ex : List UInt8 → Res T} (H : EatN ex) : EatN (QbM s ex) := by
  intro r t r2 h
  rw [QbM] at h
  cases hs : QV r with
  | nil => rw [hs] at h; cases h
  | cons c r3 =>
    rw [hs] at h
    have hlt := Xe hs
    have hle : (c :: r3).length ≤ r.length := by rw [← hs]; exact Zl r
    simp only at h
    split at h
    · rename_i hd
      obtain ⟨o, n⟩ := Qlb s 1 (.inl rfl) h hd
      exact ⟨o, by omega⟩
    · split at h
      · split at h
        · rename_i hd
          obtain ⟨o, n⟩ := Qlb s (-1) (.inr rfl) h hd
          exact ⟨o, by omega⟩
        · cases h
      · split at h
        · rename_i hl
          obtain ⟨o, n⟩ := Qkj H (Qgb hl) h
          exact ⟨o, by omega⟩
        · split at h
          · cases he : ex r3 with
            | err e => rw [he] at h; cases h
            | ok t' r4 =>
              rw [he] at h
              simp only at h
              obtain ⟨o, n⟩ := H _ _ _ he
              split at h
              · rename_i d r5 hs2
                have := Xe hs2
                split at h
                · cases h; exact ⟨o, by omega⟩
                · cases h
              · cases h
          · cases h
theorem Qgz {op : List UInt8 → Res T} (H : EatN op) (st : Int) : ∀ (m : Nat) (t : T) (r : List UInt8) (a : T) (r2 : List UInt8), t.ok → YT op st m t r = .ok a r2 → a.ok ∧ a.nds + r2.length ≤ t.nds + r.length
  | 0, t, r, a, r2, ho, h => by
    cases h
    exact ⟨ho, by have := Zl r; omega⟩
  | m + 1, t, r, a, r2, ho, h => by
    rw [YT] at h
    cases hs : QV r with
    | nil => rw [hs] at h; cases h; exact ⟨ho, by simp⟩
    | cons c r3 =>
      rw [hs] at h
      have hlt := Xe hs
      simp only at h
      split at h
      · cases he : op r3 with
        | err e => rw [he] at h; cases h
        | ok u r4 =>
          rw [he] at h
          simp only at h
          obtain ⟨o1, n1⟩ := H _ _ _ he
          obtain ⟨o2, n2⟩ := Qgz H st m (.mk 2 0 (mkB [c]) [t, u]) r4 a r2 ⟨Qf3.2.2, Qf3.1, by show (1 : Nat) ≤ _; omega, ho, o1, trivial⟩ h
          simp only [T.nds, ndsL] at n2
          exact ⟨o2, by omega⟩
      · cases h
        exact ⟨ho, by simp only [Qm5]; omega⟩
theorem Qhs {op : List UInt8 → Res T} (H : EatN op) (st : Int) : EatN (chain op st) := by
  intro r t r2 h
  rw [chain] at h
  cases he : op r with
  | err e => rw [he] at h; cases h
  | ok u r3 =>
    rw [he] at h
    obtain ⟨o1, n1⟩ := H _ _ _ he
    obtain ⟨o2, n2⟩ := Qgz H st _ u r3 t r2 o1 h
    exact ⟨o2, by omega⟩
theorem Qhi (s : Bool) : ∀ n, EatN (QaQ s n)
  | 0 => fun r t r2 h => by cases h
  | n + 1 => Qhs (Qhs (QlN s (Qhi s n)) 2) 1
end Go.Proofs.YtehjodmnajgdgaaGreatDoor.Ab
set_option maxRecDepth 4000
namespace Go.Proofs.YtehjodmnajgdgaaGreatDoor.Ab
open Go.Proofs
theorem QgA (n : Int) : cmpI n n = 0 := by simp [cmpI]
theorem QbC : ∀ l : List UInt8, Op.bytesLess l l = false
  | [] => rfl
  | a :: l => by simp [Op.bytesLess, QbC l]
theorem Qga (s : ByteArray) : cmpS s s = 0 := by simp [cmpS, QbC]
mutual
theorem QfZ : ∀ t : T, cmpT t t = 0
  | .mk k i n l => by
    have h0 : ((0 : Int) != 0) = false := rfl
    simp only [cmpT, QgA, Qga, Qdk l, h0, QmW, ↓reduceIte, or3, orL, ite_self]
theorem Qdk : ∀ l : List T, cmpL l l = 0
  | [] => by simp [cmpL]
  | t :: l => by simp [cmpL, QfZ t, Qdk l]
end
theorem QcZ (p : G) (hn : ndsL p.args ≤ 1000000) : Pure Tryz.prog 60 [p.atom, p.atom] (.i 0) := by
  intro h
  have hl := Zt p.args
  have c1 := QhW p.name p.name
  rw [Qga] at c1
  have c2 := Qcp p.args.length p.args.length
  rw [QgA] at c2
  have c3 := Qez 1000000 (Z0 1000000 (Nat.le_refl _)) p.args p.args hn (by omega)
  rw [Qdk] at c3
  have z0 : ((0 : Int) == 0) = true := rfl
  refine Qe Tryz.func60 rfl Tryz.call60 Tryz.ntmps60 (congrArg Array.toList Tryz.results60) (by simp) ?_
  repeat (first | ((first | (with_reducible (first | refine Qa fun K E hK hE => ?_ | refine Qr fun K E hK hE => ?_ | refine Qz c1 ?_ | refine Qz c2 ?_ | refine Qz c3 ?_))); simp -implicitDefEqProofs only [Qd, Qb, Qf, OpW, QQ, aop, undef, AS.ev, Qc, Qn, Qg, Qv, QmZ, Qni, AV.Qmr, Qnc, Qnd, Qu, QI, Qne, ↓reduceIte, Qm5, Qm6, Nat.reduceAdd, Nat.reduceLT, Nat.reduceEqDiff, Qm4, Qnh, Ql, QG, QH, aBin, aLen, Q0, hget, hlen, happ, QmS, QmT, QmU, Qm7, Qnb, Qnk, Qnj, QR, goInt, Qm0, QK, ti9, ti22, un22, QcH, Qeu, Xy]) | (with_reducible (first | refine Qi fun K hK => ?_ | refine Qm ?_ | refine Qj ?_)) | ((with_reducible refine hK _ ?_); clear hK) | (refine Qk rfl ?_; simp only [↓reduceIte]))
  simp only [QN, Qp, Qw, upd, ↓reduceIte, QmY, Qm2]; first | refine Qh (htake _ _) (.keep (.v _)) ⟨rfl, rfl⟩ | refine Qh List.take_length (.keep (.v _)) ⟨rfl, rfl⟩
theorem QeK (p : G) (hn : ndsL p.args ≤ 1000000) : Pure Tryz.prog 23 [p.atom, p.atom] (.b true) := by
  intro h
  have c := QcZ p hn
  have z0 : ((0 : Int) == 0) = true := rfl
  refine Qe Tryz.func23 rfl Tryz.call23 Tryz.ntmps23 (congrArg Array.toList Tryz.results23) (by simp) ?_
  repeat (first | ((first | (with_reducible (first | refine Qa fun K E hK hE => ?_ | refine Qz c ?_))); simp -implicitDefEqProofs only [Qd, Qb, Qf, OpW, QQ, aop, undef, AS.ev, Qc, Qn, Qt, Qg, Qv, QmZ, Qni, AV.Qmr, Qnc, Qnd, Qu, QI, Qne, ↓reduceIte, Qm5, Qm6, Nat.reduceAdd, Nat.reduceLT, Nat.reduceEqDiff, Qm4, Qnq, QG, QH, aBin, Q0, hget, hlen, happ, QmS, QmT, QmU, Qm7, Qnb, Qnk, Qnj, QR, Qm0, ti34, Xy, Yc]) | (with_reducible refine Qm ?_) | ((with_reducible refine hK _ ?_); clear hK))
  simp only [QN, Qp, Qw, upd, ↓reduceIte, QmY, Qm2]; first | refine Qh (htake _ _) (.keep (.v _)) ⟨rfl, rfl⟩ | refine Qh List.take_length (.keep (.v _)) ⟨rfl, rfl⟩
end Go.Proofs.YtehjodmnajgdgaaGreatDoor.Ab
namespace Go.Proofs.YtehjodmnajgdgaaGreatDoor.Ab
mutual
/-- the occurrences of variables -/
def T.vars : T → List Int
  | .mk k i _ l => if k = 1 then [i] else if k = 2 then QlQ l else []
def QlQ : List T → List Int
  | [] => []
  | t :: l => t.vars ++ QlQ l
end
end Go.Proofs.YtehjodmnajgdgaaGreatDoor.Ab
namespace Go.Proofs.YtehjodmnajgdgaaGreatDoor.Ab
mutual
def T.dep : T → Nat
  | .mk k _ _ l => 1 + (if k = 2 then deps l else 0)
def deps : List T → Nat
  | [] => 0
  | t :: l => max t.dep (deps l)
end
theorem T.QmN (t : T) : t.dep = 1 + deps t.uses := by
  cases t with | mk k i n l =>
  show T.dep (.mk k i n l) = 1 + deps (if k = 2 then l else [])
  simp only [T.dep]
  by_cases h : k = 2
  · simp [h]
  · simp [h, deps]
theorem Qdp : ∀ l r : List T, deps (l ++ r) = max (deps l) (deps r)
  | [], r => by simp [deps]
  | t :: l, r => by simp only [Qnk, deps, Qdp l r]; omega
theorem Qeg {l : List T} {k : Nat} (h : k < l.length) : deps (l.take (k + 1)) = max (deps (l.take k)) (l[k]).dep := by
  rw [List.take_succ_eq_append_getElem h, Qdp]; simp [deps]
mutual
theorem T.QmG : ∀ t : T, t.dep ≤ t.size
  | .mk k i n l => by
    simp only [T.dep, T.size]
    have := Qel l
    split <;> omega
theorem Qel : ∀ l : List T, deps l ≤ sizes l
  | [] => Nat.le_refl _
  | t :: l => by
    simp only [deps, sizes]
    have := T.QmG t
    have := Qel l
    omega
end
end Go.Proofs.YtehjodmnajgdgaaGreatDoor.Ab
set_option maxRecDepth 4000
namespace Go.Proofs.YtehjodmnajgdgaaGreatDoor.Ab
open Go.Proofs
theorem QcP (t : T) : Pure Tryz.prog 104 [t.av] (.sl 4 (avs t.uses) none) := by
  intro h
  refine Qe Tryz.func104 rfl Tryz.call104 Tryz.ntmps104 (congrArg Array.toList Tryz.results104) (by simp) ?_
  by_cases hk : t.kind = 2
  · have hb : (t.kind == 2) = true := by simpa using hk
    repeat (first | (((with_reducible refine Qa fun K E hK hE => ?_)); simp -implicitDefEqProofs only [Qd, Qb, Qf, OpW, aop, undef, AS.ev, Qc, Qn, XG, Qg, Qv, QmZ, AV.Qmr, Qnc, Qnd, Qs, Qu, QI, Qne, ↓reduceIte, Qm5, Qm6, Nat.reduceAdd, Nat.reduceLT, Nat.reduceEqDiff, Qm4, Qnh, Ql, QG, QH, aBin, Q0, QmS, QmT, QmU, QR, T.Qmp, ti3, ti22, Xu, Xx, hb, T.Qmp]) | (with_reducible (first | refine Qi fun K hK => ?_ | refine Qm ?_ | refine QA ?_)) | ((with_reducible refine hK _ ?_); clear hK) | (refine Qk rfl ?_; simp only [↓reduceIte]))
    simp only [QN, Qp, Qw, upd, ↓reduceIte, QmY, Qm2]
    refine Qh (htake _ _) (.keep (Qd0 _ _)) ⟨by rw [T.uses, if_pos hk], rfl⟩
  · have hb : (t.kind == 2) = false := by simpa using hk
    repeat (first | (((with_reducible refine Qa fun K E hK hE => ?_)); simp -implicitDefEqProofs only [Qd, Qb, Qf, OpW, aop, undef, AS.ev, Qc, Qn, XG, Qg, Qv, QmZ, AV.Qmr, Qnc, Qnd, Qs, Qu, QI, Qne, ↓reduceIte, Qm5, Qm6, Nat.reduceAdd, Nat.reduceLT, Nat.reduceEqDiff, Qm4, Qnh, Ql, QG, QH, aBin, Q0, QmS, QmU, QR, T.Qmp, ti3, Xu, hb, T.Qmp]) | (with_reducible (first | refine Qi fun K hK => ?_ | refine Qm ?_ | refine QD ?_ | refine Qj ?_)) | ((with_reducible refine hK _ ?_); clear hK) | (refine Qk rfl ?_; simp only [↓reduceIte, QmW]))
    simp only [QN, Qp, Qw, upd, ↓reduceIte, QmY, Qm2]
    refine Qh (htake _ _) (.nil 4) ⟨by rw [T.uses, if_neg hk]; rfl, rfl⟩
theorem QjZ {t : T} {k : Nat} (h : k < t.uses.length) : (t.uses[k]).size < t.size := by
  have h1 := Qbc h
  have h2 := Qb3 t.uses (k + 1)
  have h3 := T.size_eq t
  omega
theorem QcJ (n : Nat) : ∀ t : T, t.size ≤ n → n ≤ 1000000 → Pure Tryz.prog 62 [t.av] (.i (t.size : Nat)) := by
  induction n with
  | zero => intro t h; have := size_pos t; omega
  | succ n ih =>
    intro t hn hb h
    have hsz := T.size_eq t
    have hll := QaU t.uses
    have c0 := QcP t
    refine Qe Tryz.func62 rfl Tryz.call62 Tryz.ntmps62 (congrArg Array.toList Tryz.results62) (by simp) ?_
    repeat (first | ((first | (with_reducible (first | refine Qa fun K E hK hE => ?_ | refine Qz c0 ?_))); simp -implicitDefEqProofs only [Qd, Qb, Qf, OpW, QQ, aop, undef, AS.ev, Qc, Qn, Qg, Qv, QmZ, AV.Qmr, Qnc, Qnd, Qs, Qu, QI, Qne, ↓reduceIte, Qm5, Qm6, Nat.reduceAdd, Nat.reduceLT, Nat.reduceEqDiff, Qm4, Qnq, QG, QH, Q0, QmS, QmU, Qm7, Qnb, T.Qmp, T.Qmq, ti24, T.Qmp, T.Qmq]) | (with_reducible (first | refine Qi fun K hK => ?_ | refine Qq ?_)) | ((with_reducible refine hK _ ?_); clear hK))
    obtain ⟨I, hI⟩ : ∃ I : Nat → AS → Prop, I = fun m' s => ∃ (k : Nat) (L : AH), m' = t.uses.length - k ∧ k ≤ t.uses.length ∧ s.tm 3 = .i ((1 + sizes (t.uses.take k) : Nat) : Int) ∧ s.tm 4 = .sl 4 (avs t.uses) none ∧ s.tm 5 = .i k ∧ s.h = h ++ L := ⟨_, rfl⟩; refine XJ I ?_ (m := t.uses.length) ?_
    · intro m' s hs; rw [hI] at hs; obtain ⟨tm, hp⟩ := s; dsimp only at hs; obtain ⟨k, L, rfl, hk, t3, t4, t5, rfl⟩ := hs
      by_cases hlt : k < t.uses.length
      · have hts := Qbc hlt
        have htl := Qb3 t.uses (k + 1)
        have c := ih t.uses[k] (by have := QjZ hlt; omega) (by omega)
        repeat (first | ((first | (with_reducible (first | refine Qa fun K E hK hE => ?_ | refine Qr fun K E hK hE => ?_ | refine Qz c ?_))); simp -implicitDefEqProofs only [Qd, Qb, Qf, OpW, QQ, aop, AS.ev, Qc, Qn, Qg, ↓reduceIte, Qm5, Qm6, Nat.reduceAdd, Nat.reduceLT, Nat.reduceEqDiff, Qm4, Qnq, QG, QH, Xg, aBin, aLen, QmU, Qm7, Qnb, Q3, XK, goInt, Qno, Qnv, Qnu, QnG, T.Qmp, T.Qmq, QK, ei22, un22, ti24, hlt, t3, t4, t5, QK, ZU hlt, T.Qmp, T.Qmq]) | (with_reducible (first | refine Qi fun K hK => ?_ | refine Qq ?_ | refine QD ?_ | refine Qj ?_ | refine QF ?_)) | ((with_reducible refine hK _ ?_); clear hK) | (refine Qk rfl ?_; simp only [↓reduceIte]))
        refine Yo.mk (m' := t.uses.length - (k + 1)) (by omega) ?_
        rw [hI]
        refine ⟨k + 1, _, rfl, hlt, ?_, t4, ?_, rfl⟩
        · simp only [upd, ↓reduceIte, Nat.reduceEqDiff]
          rw [YP (by omega)]
          congr 2; omega
        · simp only [upd, ↓reduceIte]
          rw [Zi (by omega)]
      · have hkl : k = t.uses.length := by omega
        repeat (first | (((with_reducible refine Qa fun K E hK hE => ?_)); simp -implicitDefEqProofs only [Qd, Qb, Qf, OpW, aop, AS.ev, Qc, Qg, ↓reduceIte, Nat.reduceLT, Nat.reduceEqDiff, aBin, aLen, QmU, Q3, goInt, Qnp, QnG, QK, un22, hlt, t3, t4, t5, QK]) | (with_reducible (first | refine Qi fun K hK => ?_ | refine Qm ?_ | refine Xb ?_ | refine Qj ?_ | refine Q5 ?_ | refine Q4 ?_)) | ((with_reducible refine hK _ ?_); clear hK) | (clear hK; (with_reducible refine hK _ ?_); clear hK) | (refine Qk rfl ?_; simp only [↓reduceIte, QmW]))
        simp only [QN, Qp, Qw, upd, ↓reduceIte, QmY, Qm2]
        refine Qh (htake _ _) (.keep (.v _)) ⟨?_, rfl⟩
        rw [hkl, List.take_length, hsz]
    · rw [hI]
      exact ⟨0, [.cells 24 4 [t.av]], by omega, Nat.zero_le _, rfl, rfl, rfl, rfl⟩
theorem Qfc (n : Nat) : ∀ t : T, t.size ≤ n → n ≤ 1000000 → Pure Tryz.prog 63 [t.av] (.i (t.dep : Nat)) := by
  induction n with
  | zero => intro t h; have := size_pos t; omega
  | succ n ih =>
    intro t hn hb h
    have hsz := T.size_eq t
    have hll := QaU t.uses
    have hde := T.QmN t
    have hds := T.QmG t
    have c0 := QcP t
    refine Qe Tryz.func63 rfl Tryz.call63 Tryz.ntmps63 (congrArg Array.toList Tryz.results63) (by simp) ?_
    repeat (first | ((first | (with_reducible (first | refine Qa fun K E hK hE => ?_ | refine Qz c0 ?_))); simp -implicitDefEqProofs only [Qd, Qb, Qf, OpW, QQ, aop, undef, AS.ev, Qc, Qn, Qg, Qv, QmZ, AV.Qmr, Qnc, Qnd, Qs, Qu, QI, Qne, ↓reduceIte, Qm5, Qm6, Nat.reduceAdd, Nat.reduceLT, Nat.reduceEqDiff, Qm4, Qnq, QG, QH, Q0, QmS, QmU, Qm7, Qnb, T.Qmp, T.Qmq, ti24, T.Qmp, T.Qmq]) | (with_reducible (first | refine Qi fun K hK => ?_ | refine Qq ?_)) | ((with_reducible refine hK _ ?_); clear hK))
    obtain ⟨I, hI⟩ : ∃ I : Nat → AS → Prop, I = fun m' s => ∃ (k : Nat) (L : AH), m' = t.uses.length - k ∧ k ≤ t.uses.length ∧ s.tm 3 = .i ((deps (t.uses.take k) : Nat) : Int) ∧ s.tm 4 = .sl 4 (avs t.uses) none ∧ s.tm 5 = .i k ∧ s.h = h ++ L := ⟨_, rfl⟩; refine XJ I ?_ (m := t.uses.length) ?_
    · intro m' s hs; rw [hI] at hs; obtain ⟨tm, hp⟩ := s; dsimp only at hs; obtain ⟨k, L, rfl, hk, t3, t4, t5, rfl⟩ := hs
      by_cases hlt : k < t.uses.length
      · have hts := Qeg hlt
        have c := ih t.uses[k] (by have := QjZ hlt; omega) (by omega)
        repeat (first | ((first | (with_reducible (first | refine Qa fun K E hK hE => ?_ | refine Qr fun K E hK hE => ?_ | refine Qz c ?_))); simp -implicitDefEqProofs only [Qd, Qb, Qf, OpW, QQ, aop, AS.ev, Qc, Qn, Qg, ↓reduceIte, Qm5, Qm6, Nat.reduceAdd, Nat.reduceLT, Nat.reduceEqDiff, Qm4, Qnq, QG, QH, Xg, aBin, aLen, QmU, Qm7, Qnb, Q3, XK, Ql2, goInt, Qno, Qnv, Qnu, QnG, T.Qmp, T.Qmq, QK, ei22, un22, ti24, hlt, t3, t4, t5, QK, ZU hlt, T.Qmp, T.Qmq]) | (with_reducible (first | refine Qi fun K hK => ?_ | refine Qq ?_ | refine QD ?_ | refine Qj ?_ | refine QF ?_)) | ((with_reducible refine hK _ ?_); clear hK) | (refine Qk rfl ?_; simp only [↓reduceIte]))
        refine Yo.mk (m' := t.uses.length - (k + 1)) (by omega) ?_
        rw [hI]
        refine ⟨k + 1, _, rfl, hlt, ?_, t4, ?_, rfl⟩
        · simp only [upd, ↓reduceIte, Nat.reduceEqDiff]
          rw [hts]
          congr 2
          split <;> omega
        · simp only [upd, ↓reduceIte]
          rw [Zi (by omega)]
      · have hkl : k = t.uses.length := by omega
        have hd2 : deps (t.uses.take k) = deps t.uses := by rw [hkl, List.take_length]
        rw [hd2] at t3
        repeat (first | (((with_reducible refine Qa fun K E hK hE => ?_)); simp -implicitDefEqProofs only [Qd, Qb, Qf, OpW, aop, AS.ev, Qc, Qn, Qg, ↓reduceIte, Nat.reduceLT, Nat.reduceEqDiff, aBin, aLen, QmU, Q3, XK, goInt, Qnp, QnG, QK, un22, hlt, t3, t4, t5, QK]) | (with_reducible (first | refine Qi fun K hK => ?_ | refine Qm ?_ | refine Xb ?_ | refine Qj ?_ | refine Q5 ?_ | refine Q4 ?_)) | ((with_reducible refine hK _ ?_); clear hK) | (clear hK; (with_reducible refine hK _ ?_); clear hK) | (refine Qk rfl ?_; simp only [↓reduceIte, QmW]))
        simp only [QN, Qp, Qw, upd, ↓reduceIte, QmY, Qm2]
        refine Qh (htake _ _) (.keep (.v _)) ⟨?_, rfl⟩
        rw [Zi (by omega), hde, Nat.add_comm]
    · rw [hI]
      exact ⟨0, [.cells 24 4 [t.av]], by omega, Nat.zero_le _, rfl, rfl, rfl, rfl⟩
end Go.Proofs.YtehjodmnajgdgaaGreatDoor.Ab
set_option maxRecDepth 4000
namespace Go.Proofs.YtehjodmnajgdgaaGreatDoor.Ab
open Go.Proofs
mutual
def T.Qms : T → Bool
 | .mk k i n l =>
  if k = 0 then decide (-2147483648 ≤ i ∧ i ≤ 2147483648) && ZX n && l.isEmpty else
  if k = 1 then decide (0 ≤ i ∧ i ≤ 1048576) && ZX n && l.isEmpty else
  if k = 2 then (if i ≠ 0 ∨ 6 < l.length then false else if (!Yp n && !(opB n && decide (l.length = 2))) = true then false else ZC l) else false
def ZC : List T → Bool
 | [] => true
 | t :: l => t.Qms && ZC l
end
theorem T.Qmt (t : T) : t.Qms = if t.kind = 0 then decide (-2147483648 ≤ t.int ∧ t.int ≤ 2147483648) && ZX t.name && t.args.isEmpty else
  if t.kind = 1 then decide (0 ≤ t.int ∧ t.int ≤ 1048576) && ZX t.name && t.args.isEmpty else
  if t.kind = 2 then (if t.int ≠ 0 ∨ 6 < t.args.length then false else if (!Yp t.name && !(opB t.name && decide (t.args.length = 2))) = true then false else ZC t.args) else false := by
 cases t; rw [T.Qms]; rfl
theorem Qhn {l : List T} {k : Nat} (h : k < l.length) : ZC (l.drop k) = ((l[k]).Qms && ZC (l.drop (k + 1))) := by
 rw [List.drop_eq_getElem_cons h]; simp only [ZC]
theorem Qhp {p q : Prop} [Decidable p] [Decidable q] : (decide p && decide q) = decide (p ∧ q) := by
 by_cases hp : p <;> by_cases hq : q <;> simp [hp, hq]
mutual
theorem T.Qmv : ∀ (t : T) (b d : Int), (t.run b d).1 = (t.Qms && decide ((t.size : Int) ≤ b ∧ (t.dep : Int) ≤ d)) ∧ ((t.run b d).1 = true → (t.run b d).2 = b - t.size)
 | .mk k i n l, b, d => by
  have hs := size_pos (.mk k i n l)
  have hd : 1 ≤ (T.mk k i n l).dep := by rw [T.QmN]; omega
  rw [T.run, T.Qms]
  by_cases h1 : b - 1 < 0 ∨ d < 1
  ·rw [if_pos h1, decide_eq_false (show ¬ (((T.mk k i n l).size : Int) ≤ b ∧ ((T.mk k i n l).dep : Int) ≤ d) by omega), Bool.and_false]
   exact ⟨rfl, fun h => by cases h⟩
  rw [if_neg h1]
  have one : k ≠ 2 → (T.mk k i n l).size = 1 ∧ (T.mk k i n l).dep = 1 := fun h => by simp only [T.size, T.dep, if_neg h]; exact ⟨trivial, trivial⟩
  by_cases k0 : k = 0
  ·obtain ⟨e1, e2⟩ := one (by omega)
   rw [if_pos k0, if_pos k0, e1, e2, decide_eq_true (show ((1 : Nat) : Int) ≤ b ∧ ((1 : Nat) : Int) ≤ d by omega), Bool.and_true]
   exact ⟨rfl, fun _ => rfl⟩
  rw [if_neg k0, if_neg k0]
  by_cases k1 : k = 1
  ·obtain ⟨e1, e2⟩ := one (by omega)
   rw [if_pos k1, if_pos k1, e1, e2, decide_eq_true (show ((1 : Nat) : Int) ≤ b ∧ ((1 : Nat) : Int) ≤ d by omega), Bool.and_true]
   exact ⟨rfl, fun _ => rfl⟩
  rw [if_neg k1, if_neg k1]
  by_cases k2 : k = 2
  ·rw [if_pos k2, if_pos k2]
   by_cases h2 : i ≠ 0 ∨ 6 < l.length
   ·rw [if_pos h2, if_pos h2]; exact ⟨rfl, fun h => by cases h⟩
   rw [if_neg h2, if_neg h2]
   by_cases h3 : (!Yp n && !(opB n && decide (l.length = 2))) = true
   ·rw [if_pos h3, if_pos h3]; exact ⟨rfl, fun h => by cases h⟩
   rw [if_neg h3, if_neg h3]
   have e1 : (T.mk k i n l).size = 1 + sizes l := by simp only [T.size, if_pos k2]
   have e2 : (T.mk k i n l).dep = 1 + deps l := by simp only [T.dep, if_pos k2]
   obtain ⟨r1, r2⟩ := Qd4 l (b - 1) (d - 1) (by omega) (by omega)
   rw [e1, e2]
   refine ⟨?_, fun h => by rw [r2 h]; omega⟩
   rw [r1]
   congr 1
   exact decide_eq_decide.2 (by omega)
  ·rw [if_neg k2, if_neg k2]; exact ⟨rfl, fun h => by cases h⟩
theorem Qd4 : ∀ (l : List T) (b d : Int), 0 ≤ b → 0 ≤ d → (runL l b d).1 = (ZC l && decide ((sizes l : Int) ≤ b ∧ (deps l : Int) ≤ d)) ∧ ((runL l b d).1 = true → (runL l b d).2 = b - sizes l)
 | [], b, d, hb, hd => by
  rw [runL, ZC, sizes, deps, decide_eq_true (show ((0 : Nat) : Int) ≤ b ∧ ((0 : Nat) : Int) ≤ d by omega)]
  exact ⟨rfl, fun _ => by omega⟩
 | t :: l, b, d, hb, hd => by
  obtain ⟨r1, r2⟩ := T.Qmv t b d
  rw [runL, ZC, sizes, deps]
  by_cases h : (t.run b d).1 = true
  ·rw [if_pos h]
   have e := r2 h
   rw [r1, Bool.and_eq_true, decide_eq_true_eq] at h
   obtain ⟨hf, h1, h2⟩ := h
   obtain ⟨q1, q2⟩ := Qd4 l (t.run b d).2 d (by omega) hd
   rw [hf, Bool.true_and]
   refine ⟨?_, fun h => by rw [q2 h]; omega⟩
   rw [q1]
   congr 1
   exact decide_eq_decide.2 (by omega)
  ·rw [if_neg h]
   refine ⟨?_, fun h => by cases h⟩
   rw [r1] at h
   cases hf : t.Qms with
   | false => rfl
   | true =>
    rw [hf, Bool.true_and, decide_eq_true_eq] at h
    rw [decide_eq_false (by omega), Bool.and_false]
end
theorem T.QmK (t : T) : (t.run 200 20).1 = (t.Qms && (decide (t.size ≤ 200) && decide (t.dep ≤ 20))) := by
 rw [(T.Qmv t 200 20).1, Qhp]
 congr 1
 exact decide_eq_decide.2 (by omega)
def rargs : List T → Nat → Bool
 | [], n => decide (n ≤ 200)
 | t :: l, n => (t.run 200 20).1 && rargs l (n + t.size)
theorem QhQ : ∀ (l : List T) (n : Nat), 200 < n → rargs l n = false
 | [], n, h => by rw [rargs, decide_eq_false (by omega)]
 | t :: l, n, h => by rw [rargs, QhQ l _ (by omega), Bool.and_false]
theorem QfY : ∀ (l : List T) (n : Nat), n ≤ 200 → rargs l n = (runL l (200 - n) 20).1
 | [], n, h => by rw [rargs, runL, decide_eq_true h]
 | t :: l, n, h => by
  obtain ⟨r1, _⟩ := T.Qmv t 200 20
  obtain ⟨q1, q2⟩ := T.Qmv t (200 - n) 20
  rw [rargs, runL, r1]
  by_cases hq : (t.run (200 - n) 20).1 = true
  ·rw [if_pos hq, q2 hq]
   rw [q1, Bool.and_eq_true, decide_eq_true_eq] at hq
   rw [hq.1, decide_eq_true (by omega), Bool.true_and, Bool.true_and, QfY l (n + t.size) (by omega)]
   congr 2; omega
  ·rw [if_neg hq]
   rw [q1] at hq
   cases hf : t.Qms with
   | false => rfl
   | true =>
    rw [hf, Bool.true_and, decide_eq_true_eq] at hq
    by_cases h2 : n + t.size ≤ 200
    ·rw [decide_eq_false (by omega)]; rfl
    ·rw [QhQ l _ (by omega), Bool.and_false]
theorem Qkc (l : List T) : rargs l 0 = (runL l 200 20).1 := by
 have := QfY l 0 (by omega)
 simpa using this
mutual
theorem T.Qmz : ∀ t : T, t.size ≤ t.nds
 | .mk k i n l => by
  simp only [T.size, T.nds]
  have := Qdz l
  split <;> omega
theorem Qdz : ∀ l : List T, sizes l ≤ ndsL l
 | [] => Nat.le_refl _
 | t :: l => by
  simp only [sizes, ndsL]
  have := T.Qmz t
  have := Qdz l
  omega
end
theorem QkG (t : T) (k0 : t.kind = 0) : Pure Tryz.prog 61 [t.av] (.b t.Qms) := by
 intro h
 have z0 : (t.kind == 0) = true := by simp [k0]
 by_cases c1 : t.int ≥ -2147483648
 rotate_left
 ·have e1 : ¬ -2147483648 ≤ t.int := by omega
  have R : t.Qms = false := by
   rw [T.Qmt, if_pos k0]; simp [e1]
  rw [R]
  refine Qe Tryz.func61 rfl Tryz.call61 Tryz.ntmps61 (congrArg Array.toList Tryz.results61) (by simp) ?_
  repeat (first | (((with_reducible refine Qa fun K E hK hE => ?_)); simp -implicitDefEqProofs only [Qd, Qb, Qf, OpW, aop, undef, AS.ev, Qc, Qn, Qt, Qg, Qv, QmZ, AV.Qmr, Qnc, Qnd, Qs, Qu, QI, Qne, ↓reduceIte, Qm5, Qm6, Nat.reduceAdd, Nat.reduceLT, Nat.reduceEqDiff, Qm4, Qnh, Ql, QG, QH, aBin, Q0, QmS, QmT, QmU, QmX, QmV, QR, Xi, Qnp, QmW, beq_true, T.Qmp, ti3, Xu, XF, T.Qmp, z0, c1]) | (with_reducible (first | refine Qi fun K hK => ?_ | refine Qq ?_ | refine Qm ?_ | refine QA ?_ | refine QJ ?_)) | ((with_reducible refine hK _ ?_); clear hK) | (refine Qk rfl ?_; simp only [↓reduceIte]))
  simp only [QN, Qp, Qw, upd, ↓reduceIte, QmY, Qm2]; first | refine Qh (htake _ _) (.keep (.v _)) ⟨rfl, rfl⟩ | refine Qh List.take_length (.keep (.v _)) ⟨rfl, rfl⟩
 have e1 : -2147483648 ≤ t.int := by omega
 by_cases c2 : t.int ≤ 2147483648
 rotate_left
 ·skip
  have R : t.Qms = false := by
   rw [T.Qmt, if_pos k0]; simp [e1, c2]
  rw [R]
  refine Qe Tryz.func61 rfl Tryz.call61 Tryz.ntmps61 (congrArg Array.toList Tryz.results61) (by simp) ?_
  repeat (first | (((with_reducible refine Qa fun K E hK hE => ?_)); simp -implicitDefEqProofs only [Qd, Qb, Qf, OpW, aop, undef, AS.ev, Qc, Qn, Qt, Qg, Qv, QmZ, AV.Qmr, Qnc, Qnd, Qs, Qu, QI, Qne, ↓reduceIte, Qm5, Qm6, Nat.reduceAdd, Nat.reduceLT, Nat.reduceEqDiff, Qm4, Qnh, Ql, QG, QH, aBin, Q0, QmS, QmT, QmU, QmX, QmV, QR, Q9, Xi, Qno, Qnp, Qm0, QmW, beq_true, T.Qmp, ti3, Xu, XF, T.Qmp, z0, c1, c2]) | (with_reducible (first | refine Qi fun K hK => ?_ | refine Qq ?_ | refine Qm ?_ | refine QA ?_ | refine QJ ?_)) | ((with_reducible refine hK _ ?_); clear hK) | (refine Qk rfl ?_; simp only [↓reduceIte]))
  simp only [QN, Qp, Qw, upd, ↓reduceIte, QmY, Qm2]; first | refine Qh (htake _ _) (.keep (.v _)) ⟨rfl, rfl⟩ | refine Qh List.take_length (.keep (.v _)) ⟨rfl, rfl⟩
 cases c3 : ZX t.name with
 | false =>
  have c3' : (t.name.toList == ({ data := #[] } : ByteArray).toList) = false := c3
  have R : t.Qms = false := by
   rw [T.Qmt, if_pos k0]; simp [e1, c2, c3]
  rw [R]
  refine Qe Tryz.func61 rfl Tryz.call61 Tryz.ntmps61 (congrArg Array.toList Tryz.results61) (by simp) ?_
  repeat (first | (((with_reducible refine Qa fun K E hK hE => ?_)); simp -implicitDefEqProofs only [Qd, Qb, Qf, OpW, aop, undef, AS.ev, Qc, Qn, Qt, QO, Qg, Qv, QmZ, AV.Qmr, Qnc, Qnd, Qs, Qu, QI, Qne, ↓reduceIte, Qm5, Qm6, Nat.reduceAdd, Nat.reduceLT, Nat.reduceEqDiff, Qm4, Qnh, Ql, QG, QH, aBin, Q0, QmS, QmT, QmU, QmX, QmV, QR, Q9, Xi, QY, Qno, Qm0, QmW, beq_true, T.Qmp, ti3, ti9, Xu, XF, XA, T.Qmp, z0, c1, c2, c3']) | (with_reducible (first | refine Qi fun K hK => ?_ | refine Qq ?_ | refine Qm ?_ | refine QA ?_ | refine QJ ?_)) | ((with_reducible refine hK _ ?_); clear hK) | (refine Qk rfl ?_; simp only [↓reduceIte]))
  simp only [QN, Qp, Qw, upd, ↓reduceIte, QmY, Qm2]; first | refine Qh (htake _ _) (.keep (.v _)) ⟨rfl, rfl⟩ | refine Qh List.take_length (.keep (.v _)) ⟨rfl, rfl⟩
 | true =>
  have c3' : (t.name.toList == ({ data := #[] } : ByteArray).toList) = true := c3
  cases hl : t.args with
  | nil =>
   have c4 : ((0 : Int) == 0) = true := rfl
   have R : t.Qms = true := by
    rw [T.Qmt, if_pos k0]; simp [e1, c2, c3, hl]
   rw [R]
   refine Qe Tryz.func61 rfl Tryz.call61 Tryz.ntmps61 (congrArg Array.toList Tryz.results61) (by simp) ?_
   repeat (first | (((with_reducible refine Qa fun K E hK hE => ?_)); simp -implicitDefEqProofs only [Qd, Qb, Qf, OpW, aop, undef, AS.ev, Qc, Qn, Qt, QO, Qg, Qv, QmZ, AV.Qmr, Qnc, Qnd, Qs, Qu, QI, Qne, ↓reduceIte, Qm5, Qm6, Nat.reduceAdd, Nat.reduceLT, Nat.reduceEqDiff, Qm4, Qnh, Ql, QG, QH, aBin, aLen, Q0, QmS, QmT, QmU, QmX, QmV, QR, Q9, Xi, QY, goInt, Qno, Qm0, QnE, T.Qmp, ti3, ti9, ti22, un22, Xu, XF, XA, Xx, T.Qmp, z0, c1, c2, c3', hl, Qfi]) | (with_reducible (first | refine Qi fun K hK => ?_ | refine Qq ?_ | refine Qm ?_ | refine QA ?_ | refine QJ ?_)) | ((with_reducible refine hK _ ?_); clear hK) | (refine Qk rfl ?_; simp only [↓reduceIte]))
   simp only [QN, Qp, Qw, upd, ↓reduceIte, QmY, Qm2]; first | refine Qh (htake _ _) (.keep (.v _)) ⟨rfl, rfl⟩ | refine Qh List.take_length (.keep (.v _)) ⟨rfl, rfl⟩
  | cons a l =>
   have c4 : (((l.length + 1 : Nat) : Int) == 0) = false := by simp; omega
   have R : t.Qms = false := by
    rw [T.Qmt, if_pos k0]; simp [e1, c2, c3, hl]
   rw [R]
   refine Qe Tryz.func61 rfl Tryz.call61 Tryz.ntmps61 (congrArg Array.toList Tryz.results61) (by simp) ?_
   repeat (first | (((with_reducible refine Qa fun K E hK hE => ?_)); simp -implicitDefEqProofs only [Qd, Qb, Qf, OpW, aop, undef, AS.ev, Qc, Qn, Qt, QO, Qg, Qv, QmZ, AV.Qmr, Qnc, Qnd, Qs, Qu, QI, Qne, ↓reduceIte, Qm5, Qm6, Nat.reduceAdd, Nat.reduceLT, Nat.reduceEqDiff, Qm4, Qnh, Ql, QG, QH, aBin, aLen, Q0, QmS, QmT, QmU, QmX, QmV, QR, Q9, Xi, QY, goInt, Qno, Qm0, T.Qmp, QK, ti3, ti9, ti22, un22, Xu, XF, XA, Xx, T.Qmp, z0, c1, c2, c3', hl, QK, Qm5, c4]) | (with_reducible (first | refine Qi fun K hK => ?_ | refine Qq ?_ | refine Qm ?_ | refine QA ?_ | refine QJ ?_)) | ((with_reducible refine hK _ ?_); clear hK) | (refine Qk rfl ?_; simp only [↓reduceIte]))
   simp only [QN, Qp, Qw, upd, ↓reduceIte, QmY, Qm2]; first | refine Qh (htake _ _) (.keep (.v _)) ⟨rfl, rfl⟩ | refine Qh List.take_length (.keep (.v _)) ⟨rfl, rfl⟩
theorem Qkv (t : T) (k1 : t.kind = 1) : Pure Tryz.prog 61 [t.av] (.b t.Qms) := by
 intro h
 have k0 : ¬ t.kind = 0 := by omega
 have z0 : (t.kind == 0) = false := by simp [k1]
 have z1 : (t.kind == 1) = true := by simp [k1]
 by_cases c1 : t.int ≥ 0
 rotate_left
 ·have e1 : ¬ 0 ≤ t.int := by omega
  have R : t.Qms = false := by
   rw [T.Qmt, if_neg k0, if_pos k1]; simp [e1]
  rw [R]
  refine Qe Tryz.func61 rfl Tryz.call61 Tryz.ntmps61 (congrArg Array.toList Tryz.results61) (by simp) ?_
  repeat (first | (((with_reducible refine Qa fun K E hK hE => ?_)); simp -implicitDefEqProofs only [Qd, Qb, Qf, OpW, aop, undef, AS.ev, Qc, Qn, Qt, Qg, Qv, QmZ, AV.Qmr, Qnc, Qnd, Qs, Qu, QI, Qne, ↓reduceIte, Qm5, Qm6, Nat.reduceAdd, Nat.reduceLT, Nat.reduceEqDiff, Qm4, Qnh, Ql, QG, QH, aBin, Q0, QmS, QmT, QmU, QmX, QmV, QR, Xi, Qnp, QmW, beq_true, T.Qmp, ti3, Xu, XF, T.Qmp, z0, z1, c1]) | (with_reducible (first | refine Qi fun K hK => ?_ | refine Qq ?_ | refine Qm ?_ | refine QA ?_ | refine QJ ?_)) | ((with_reducible refine hK _ ?_); clear hK) | (refine Qk rfl ?_; simp only [↓reduceIte, QmW]))
  simp only [QN, Qp, Qw, upd, ↓reduceIte, QmY, Qm2]; first | refine Qh (htake _ _) (.keep (.v _)) ⟨rfl, rfl⟩ | refine Qh List.take_length (.keep (.v _)) ⟨rfl, rfl⟩
 have e1 : 0 ≤ t.int := by omega
 by_cases c2 : t.int ≤ 1048576
 rotate_left
 ·skip
  have R : t.Qms = false := by
   rw [T.Qmt, if_neg k0, if_pos k1]; simp [e1, c2]
  rw [R]
  refine Qe Tryz.func61 rfl Tryz.call61 Tryz.ntmps61 (congrArg Array.toList Tryz.results61) (by simp) ?_
  repeat (first | (((with_reducible refine Qa fun K E hK hE => ?_)); simp -implicitDefEqProofs only [Qd, Qb, Qf, OpW, aop, undef, AS.ev, Qc, Qn, Qt, Qg, Qv, QmZ, AV.Qmr, Qnc, Qnd, Qs, Qu, QI, Qne, ↓reduceIte, Qm5, Qm6, Nat.reduceAdd, Nat.reduceLT, Nat.reduceEqDiff, Qm4, Qnh, Ql, QG, QH, aBin, Q0, QmS, QmT, QmU, QmX, QmV, QR, Q9, Xi, Qno, Qnp, Qm0, QmW, beq_true, T.Qmp, ti3, Xu, XF, T.Qmp, z0, z1, c1, c2]) | (with_reducible (first | refine Qi fun K hK => ?_ | refine Qq ?_ | refine Qm ?_ | refine QA ?_ | refine QJ ?_)) | ((with_reducible refine hK _ ?_); clear hK) | (refine Qk rfl ?_; simp only [↓reduceIte, QmW]))
  simp only [QN, Qp, Qw, upd, ↓reduceIte, QmY, Qm2]; first | refine Qh (htake _ _) (.keep (.v _)) ⟨rfl, rfl⟩ | refine Qh List.take_length (.keep (.v _)) ⟨rfl, rfl⟩
 cases c3 : ZX t.name with
 | false =>
  have c3' : (t.name.toList == ({ data := #[] } : ByteArray).toList) = false := c3
  have R : t.Qms = false := by
   rw [T.Qmt, if_neg k0, if_pos k1]; simp [e1, c2, c3]
  rw [R]
  refine Qe Tryz.func61 rfl Tryz.call61 Tryz.ntmps61 (congrArg Array.toList Tryz.results61) (by simp) ?_
  repeat (first | (((with_reducible refine Qa fun K E hK hE => ?_)); simp -implicitDefEqProofs only [Qd, Qb, Qf, OpW, aop, undef, AS.ev, Qc, Qn, Qt, QO, Qg, Qv, QmZ, AV.Qmr, Qnc, Qnd, Qs, Qu, QI, Qne, ↓reduceIte, Qm5, Qm6, Nat.reduceAdd, Nat.reduceLT, Nat.reduceEqDiff, Qm4, Qnh, Ql, QG, QH, aBin, Q0, QmS, QmT, QmU, QmX, QmV, QR, Q9, Xi, QY, Qno, Qm0, QmW, beq_true, T.Qmp, ti3, ti9, Xu, XF, XA, T.Qmp, z0, z1, c1, c2, c3']) | (with_reducible (first | refine Qi fun K hK => ?_ | refine Qq ?_ | refine Qm ?_ | refine QA ?_ | refine QJ ?_)) | ((with_reducible refine hK _ ?_); clear hK) | (refine Qk rfl ?_; simp only [↓reduceIte, QmW]))
  simp only [QN, Qp, Qw, upd, ↓reduceIte, QmY, Qm2]; first | refine Qh (htake _ _) (.keep (.v _)) ⟨rfl, rfl⟩ | refine Qh List.take_length (.keep (.v _)) ⟨rfl, rfl⟩
 | true =>
  have c3' : (t.name.toList == ({ data := #[] } : ByteArray).toList) = true := c3
  cases hl : t.args with
  | nil =>
   have c4 : ((0 : Int) == 0) = true := rfl
   have R : t.Qms = true := by
    rw [T.Qmt, if_neg k0, if_pos k1]; simp [e1, c2, c3, hl]
   rw [R]
   refine Qe Tryz.func61 rfl Tryz.call61 Tryz.ntmps61 (congrArg Array.toList Tryz.results61) (by simp) ?_
   repeat (first | (((with_reducible refine Qa fun K E hK hE => ?_)); simp -implicitDefEqProofs only [Qd, Qb, Qf, OpW, aop, undef, AS.ev, Qc, Qn, Qt, QO, Qg, Qv, QmZ, AV.Qmr, Qnc, Qnd, Qs, Qu, QI, Qne, ↓reduceIte, Qm5, Qm6, Nat.reduceAdd, Nat.reduceLT, Nat.reduceEqDiff, Qm4, Qnh, Ql, QG, QH, aBin, aLen, Q0, QmS, QmT, QmU, QmX, QmV, QR, Q9, Xi, QY, goInt, Qno, Qm0, QnE, T.Qmp, ti3, ti9, ti22, un22, Xu, XF, XA, Xx, T.Qmp, z0, z1, c1, c2, c3', hl, Qfi]) | (with_reducible (first | refine Qi fun K hK => ?_ | refine Qq ?_ | refine Qm ?_ | refine QA ?_ | refine QJ ?_)) | ((with_reducible refine hK _ ?_); clear hK) | (refine Qk rfl ?_; simp only [↓reduceIte, QmW]))
   simp only [QN, Qp, Qw, upd, ↓reduceIte, QmY, Qm2]; first | refine Qh (htake _ _) (.keep (.v _)) ⟨rfl, rfl⟩ | refine Qh List.take_length (.keep (.v _)) ⟨rfl, rfl⟩
  | cons a l =>
   have c4 : (((l.length + 1 : Nat) : Int) == 0) = false := by simp; omega
   have R : t.Qms = false := by
    rw [T.Qmt, if_neg k0, if_pos k1]; simp [e1, c2, c3, hl]
   rw [R]
   refine Qe Tryz.func61 rfl Tryz.call61 Tryz.ntmps61 (congrArg Array.toList Tryz.results61) (by simp) ?_
   repeat (first | (((with_reducible refine Qa fun K E hK hE => ?_)); simp -implicitDefEqProofs only [Qd, Qb, Qf, OpW, aop, undef, AS.ev, Qc, Qn, Qt, QO, Qg, Qv, QmZ, AV.Qmr, Qnc, Qnd, Qs, Qu, QI, Qne, ↓reduceIte, Qm5, Qm6, Nat.reduceAdd, Nat.reduceLT, Nat.reduceEqDiff, Qm4, Qnh, Ql, QG, QH, aBin, aLen, Q0, QmS, QmT, QmU, QmX, QmV, QR, Q9, Xi, QY, goInt, Qno, Qm0, T.Qmp, QK, ti3, ti9, ti22, un22, Xu, XF, XA, Xx, T.Qmp, z0, z1, c1, c2, c3', hl, QK, Qm5, c4]) | (with_reducible (first | refine Qi fun K hK => ?_ | refine Qq ?_ | refine Qm ?_ | refine QA ?_ | refine QJ ?_)) | ((with_reducible refine hK _ ?_); clear hK) | (refine Qk rfl ?_; simp only [↓reduceIte, QmW]))
   simp only [QN, Qp, Qw, upd, ↓reduceIte, QmY, Qm2]; first | refine Qh (htake _ _) (.keep (.v _)) ⟨rfl, rfl⟩ | refine Qh List.take_length (.keep (.v _)) ⟨rfl, rfl⟩
theorem Qh9 (t : T) (k0 : ¬ t.kind = 0) (k1 : ¬ t.kind = 1) (k2 : ¬ t.kind = 2) : Pure Tryz.prog 61 [t.av] (.b t.Qms) := by
 intro h
 have z0 : (t.kind == 0) = false := by simp [k0]
 have z1 : (t.kind == 1) = false := by simp [k1]
 have z2 : (t.kind == 2) = false := by simp [k2]
 have R : t.Qms = false := by
  rw [T.Qmt, if_neg k0, if_neg k1, if_neg k2]
 rw [R]
 refine Qe Tryz.func61 rfl Tryz.call61 Tryz.ntmps61 (congrArg Array.toList Tryz.results61) (by simp) ?_
 repeat (first | (((with_reducible refine Qa fun K E hK hE => ?_)); simp -implicitDefEqProofs only [Qd, Qb, Qf, OpW, aop, undef, AS.ev, Qc, Qn, Qt, Qg, Qv, QmZ, AV.Qmr, Qnc, Qnd, Qs, Qu, QI, Qne, ↓reduceIte, Qm5, Qm6, Nat.reduceAdd, Nat.reduceLT, Nat.reduceEqDiff, Qm4, Qnh, Ql, QG, QH, aBin, Q0, QmS, QmU, QR, T.Qmp, ti3, Xu, T.Qmp, z0, z1, z2]) | (with_reducible (first | refine Qi fun K hK => ?_ | refine Qq ?_ | refine Qm ?_ | refine QD ?_ | refine Qj ?_ | refine QF ?_)) | ((with_reducible refine hK _ ?_); clear hK) | (refine Qk rfl ?_; simp only [↓reduceIte, QmW]))
 simp only [QN, Qp, Qw, upd, ↓reduceIte, QmY, Qm2]; first | refine Qh (htake _ _) (.keep (.v _)) ⟨rfl, rfl⟩ | refine Qh List.take_length (.keep (.v _)) ⟨rfl, rfl⟩
theorem Qkw (n : Nat) (hb : n ≤ 1000000) (ih : ∀ t : T, t.nds ≤ n → t.ok → Pure Tryz.prog 61 [t.av] (.b t.Qms)) (t : T) (hn : t.nds ≤ n + 1) (ho : t.ok) (k2 : t.kind = 2) :
  Pure Tryz.prog 61 [t.av] (.b t.Qms) := by
 intro h
 have k0 : ¬ t.kind = 0 := by omega
 have k1 : ¬ t.kind = 1 := by omega
 have z0 : (t.kind == 0) = false := by simp [k2]
 have z1 : (t.kind == 1) = false := by simp [k2]
 have z2 : (t.kind == 2) = true := by simp [k2]
 obtain ⟨o1, o2, o3, o4⟩ := (T.ok_eq t).1 ho
 have hnd := T.QmC t
 have hll := Zt t.args
 have co := QcX t.name
 have cr : Pure Tryz.prog 64 [.v (.string t.name)] (.b (Yp t.name)) := QaD t.name (by simp only [maxLen]; omega)
 refine Qe Tryz.func61 rfl Tryz.call61 Tryz.ntmps61 (congrArg Array.toList Tryz.results61) (by simp) ?_
 iterate 15 (try (first | (((with_reducible refine Qa fun K E hK hE => ?_)); simp -implicitDefEqProofs only [Qd, Qb, Qf, OpW, aop, undef, AS.ev, Qc, Qn, Qt, Qg, Qv, QmZ, AV.Qmr, Qnc, Qnd, Qs, Qu, QI, Qne, ↓reduceIte, Qm5, Qm6, Nat.reduceAdd, Nat.reduceLT, Nat.reduceEqDiff, Qm4, Qnh, Ql, QG, QH, aBin, Q0, QmS, QmU, QR, T.Qmp, ti3, Xu, T.Qmp, z0, z1, z2]) | (with_reducible (first | refine Qi fun K hK => ?_ | refine Qq ?_)) | ((with_reducible refine hK _ ?_); clear hK) | (refine Qk rfl ?_; simp only [↓reduceIte, QmW])))
 refine Yt (fun s => s.tm 3 = .b (opB t.name && decide (t.args.length = 2)) ∧ s.tm 1 = .ptr h.length 0 0 ∧ s.h = h ++ [.cells 24 4 [t.av]]) ?_ ?_
 rotate_left
 ·cases ho : opB t.name with
  | false =>
   rw [ho] at co
   repeat (first | ((first | (with_reducible (first | refine Qr fun K E hK hE => ?_ | refine Qz co ?_))); simp -implicitDefEqProofs only [Qd, Qb, Qf, OpW, QQ, aop, undef, AS.ev, Qc, Qt, Qg, ↓reduceIte, Nat.reduceLT, Nat.reduceEqDiff, Qm4, Ql, QG, QH, Q0, QmS, QmT, QmU, QmX, QmV, Qm7, Qnb, QmW, beq_true, T.Qmp, ti9, XA, T.Qmp]) | (with_reducible refine Qj ?_) | ((with_reducible refine hK _ ?_); clear hK))
   exact ⟨rfl, rfl, rfl⟩
  | true =>
   rw [ho] at co
   by_cases hl2 : t.args.length = 2
   ·have h2 : ((t.args.length : Int) == 2) = true := by rw [hl2]; rfl
    rw [decide_eq_true hl2]
    repeat (first | ((first | (with_reducible (first | refine Qr fun K E hK hE => ?_ | refine Qz co ?_))); simp -implicitDefEqProofs only [Qd, Qb, Qf, OpW, QQ, aop, AS.ev, Qc, Qn, Qg, ↓reduceIte, Nat.reduceLT, Nat.reduceEqDiff, Qm4, Ql, QG, QH, aBin, aLen, Q0, QmS, QmT, QmU, QmX, QmV, Qm7, Qnb, QR, goInt, Qm0, T.Qmp, QK, ti9, ti22, un22, XA, Xx, T.Qmp, QK, h2]) | (with_reducible refine Qj ?_) | ((with_reducible refine hK _ ?_); clear hK))
    exact ⟨rfl, rfl, rfl⟩
   ·have h2 : ((t.args.length : Int) == 2) = false := by rw [beq_eq_false_iff_ne]; omega
    rw [decide_eq_false hl2]
    repeat (first | ((first | (with_reducible (first | refine Qr fun K E hK hE => ?_ | refine Qz co ?_))); simp -implicitDefEqProofs only [Qd, Qb, Qf, OpW, QQ, aop, AS.ev, Qc, Qn, Qg, ↓reduceIte, Nat.reduceLT, Nat.reduceEqDiff, Qm4, Ql, QG, QH, aBin, aLen, Q0, QmS, QmT, QmU, QmX, QmV, Qm7, Qnb, QR, goInt, Qm0, T.Qmp, QK, ti9, ti22, un22, XA, Xx, T.Qmp, QK, h2]) | (with_reducible refine Qj ?_) | ((with_reducible refine hK _ ?_); clear hK))
    exact ⟨rfl, rfl, rfl⟩
 rintro ⟨tm, hp⟩ ⟨t3, t1, hh⟩
 dsimp only at t3 t1 hh
 subst hh
 obtain ⟨p, ep⟩ : ∃ p, p = (opB t.name && decide (t.args.length = 2)) := ⟨_, rfl⟩
 rw [← ep] at t3
 have RR : t.Qms = if t.int ≠ 0 ∨ 6 < t.args.length then false else if (!Yp t.name && !p) = true then false else ZC t.args := by rw [T.Qmt, if_neg k0, if_neg k1, if_pos k2, ← ep]
 refine Yt (fun s => t.Qms = ZC t.args ∧ t.args.length ≤ 6 ∧ s.tm 1 = .ptr h.length 0 0 ∧ s.h = h ++ [.cells 24 4 [t.av]]) ?_ ?_
 rotate_left
 ·by_cases i0 : t.int = 0
  rotate_left
  ·have y0 : (t.int != 0) = true := by simp [i0]
   have R : t.Qms = false := by rw [RR, if_pos (.inl i0)]
   rw [R]
   repeat (first | (((with_reducible refine Qa fun K E hK hE => ?_)); simp -implicitDefEqProofs only [Qd, Qb, Qf, OpW, aop, undef, AS.ev, Qc, Qn, Qt, Qg, Qnf, ↓reduceIte, Nat.reduceLT, Nat.reduceEqDiff, Qm4, Ql, QG, QH, aBin, Q0, QmS, QmT, QmU, QmX, QmV, Q2, beq_false, T.Qmp, ti3, XF, T.Qmp, t1, y0]) | (with_reducible (first | refine Qm ?_ | refine QA ?_ | refine QJ ?_)) | ((with_reducible refine hK _ ?_); clear hK) | (refine Qk rfl ?_; simp only [↓reduceIte]))
   simp only [QN, Qp, Qw, upd, ↓reduceIte, QmY, Qm2]; first | refine Qh (htake _ _) (.keep (.v _)) ⟨rfl, rfl⟩ | refine Qh List.take_length (.keep (.v _)) ⟨rfl, rfl⟩
  have y0 : (t.int != 0) = false := by simp [i0]
  cases p with
  | true =>
   have hl2 : t.args.length = 2 := by
    have := ep.symm; rw [Bool.and_eq_true, decide_eq_true_eq] at this; exact this.2
   have R : t.Qms = ZC t.args := by rw [RR, if_neg (by omega), if_neg (by simp)]
   repeat (first | (((with_reducible refine Qa fun K E hK hE => ?_)); simp -implicitDefEqProofs only [Qd, Qb, Qf, OpW, aop, undef, AS.ev, Qc, Qn, Qt, Qg, Qnf, ↓reduceIte, Nat.reduceLT, Nat.reduceEqDiff, Qm4, Ql, QG, QH, aBin, Q0, QmS, QmT, QmU, QmX, QmV, Q2, Xp, Qm0, QmW, beq_true, T.Qmp, ti3, XF, T.Qmp, t1, t3, y0]) | (with_reducible (first | refine QD ?_ | refine Qj ?_)) | ((with_reducible refine hK _ ?_); clear hK) | (refine Qk rfl ?_; simp only [↓reduceIte, QmW]))
   exact ⟨R, by omega, t1, rfl⟩
  | false =>
   cases hr : Yp t.name with
   | false =>
    rw [hr] at cr
    have R : t.Qms = false := by rw [RR]; split; rfl; rw [if_pos (by rw [hr]; rfl)]
    rw [R]
    repeat (first | ((first | (with_reducible (first | refine Qa fun K E hK hE => ?_ | refine Qz cr ?_))); simp -implicitDefEqProofs only [Qd, Qb, Qf, OpW, QQ, aop, undef, AS.ev, Qc, Qn, Qt, Qg, Qnf, Qng, ↓reduceIte, Nat.reduceLT, Nat.reduceEqDiff, Qm4, Ql, QG, QH, aBin, Q0, QmS, QmT, QmU, QmX, QmV, Qm7, Qnb, Q2, Xp, Qm0, QmW, beq_false, T.Qmp, ti3, ti9, XF, XA, T.Qmp, t1, t3, y0]) | (with_reducible (first | refine Qm ?_ | refine QA ?_ | refine QJ ?_)) | ((with_reducible refine hK _ ?_); clear hK) | (refine Qk rfl ?_; simp only [↓reduceIte]))
    simp only [QN, Qp, Qw, upd, ↓reduceIte, QmY, Qm2]; first | refine Qh (htake _ _) (.keep (.v _)) ⟨rfl, rfl⟩ | refine Qh List.take_length (.keep (.v _)) ⟨rfl, rfl⟩
   | true =>
    rw [hr] at cr
    by_cases a6 : t.args.length > 6
    ·have y6 : (t.args.length : Int) > 6 := by omega
     have R : t.Qms = false := by rw [RR, if_pos (.inr a6)]
     rw [R]
     repeat (first | ((first | (with_reducible (first | refine Qa fun K E hK hE => ?_ | refine Qz cr ?_))); simp -implicitDefEqProofs only [Qd, Qb, Qf, OpW, QQ, aop, AS.ev, Qc, Qn, Qt, Qg, Qnf, Qng, ↓reduceIte, Nat.reduceLT, Nat.reduceEqDiff, Qm4, Ql, QG, QH, aBin, aLen, Q0, QmS, QmT, QmU, QmX, QmV, Qm7, Qnb, Q2, Xr, Xp, goInt, Qno, Qm0, QmW, T.Qmp, QK, ti3, ti9, ti22, un22, XF, XA, Xx, T.Qmp, t1, t3, y0, y6, QK]) | (with_reducible (first | refine Qm ?_ | refine QA ?_ | refine QJ ?_)) | ((with_reducible refine hK _ ?_); clear hK) | (refine Qk rfl ?_; simp only [↓reduceIte]))
     simp only [QN, Qp, Qw, upd, ↓reduceIte, QmY, Qm2]; first | refine Qh (htake _ _) (.keep (.v _)) ⟨rfl, rfl⟩ | refine Qh List.take_length (.keep (.v _)) ⟨rfl, rfl⟩
    ·have y6 : ¬ (t.args.length : Int) > 6 := by omega
     have R : t.Qms = ZC t.args := by rw [RR, if_neg (by omega), if_neg (by rw [hr]; simp)]
     repeat (first | ((first | (with_reducible (first | refine Qa fun K E hK hE => ?_ | refine Qz cr ?_))); simp -implicitDefEqProofs only [Qd, Qb, Qf, OpW, QQ, aop, AS.ev, Qc, Qn, Qg, Qnf, Qng, ↓reduceIte, Nat.reduceLT, Nat.reduceEqDiff, Qm4, Ql, QG, QH, aBin, aLen, Q0, QmS, QmT, QmU, QmX, QmV, Qm7, Qnb, Q2, Xr, Xp, goInt, Qnp, Qm0, QmW, T.Qmp, QK, ti3, ti9, ti22, un22, XF, XA, Xx, T.Qmp, t1, t3, y0, y6, QK]) | (with_reducible (first | refine QD ?_ | refine Qj ?_)) | ((with_reducible refine hK _ ?_); clear hK) | (refine Qk rfl ?_; simp only [↓reduceIte, QmW]))
     exact ⟨R, by omega, t1, rfl⟩
 rintro ⟨tm, hp⟩ ⟨R, hl6, t1, hh⟩
 dsimp only at t1 hh
 subst hh
 rw [R]
 repeat (first | (((with_reducible refine Qa fun K E hK hE => ?_)); simp -implicitDefEqProofs only [Qd, Qb, Qf, OpW, aop, AS.ev, Qc, Qn, Nat.reduceLT]) | (with_reducible (first | refine Qi fun K hK => ?_ | refine Qq ?_)) | ((with_reducible refine hK _ ?_); clear hK))
 obtain ⟨I, hI⟩ : ∃ I : Nat → AS → Prop, I = fun m' s => ∃ (k : Nat), m' = t.args.length - k ∧ k ≤ t.args.length ∧ ZC t.args = ZC (t.args.drop k) ∧ s.tm 1 = .ptr h.length 0 0 ∧ s.tm 4 = .i k ∧ s.h = h ++ [AB.cells 24 4 [t.av]] := ⟨_, rfl⟩; refine XJ I ?_ (m := t.args.length) ?_
 ·intro m' s hs; rw [hI] at hs; obtain ⟨tm, hp⟩ := s; dsimp only at hs; obtain ⟨k, rfl, hk, he, t1, t4, rfl⟩ := hs
  by_cases hlt : k < t.args.length
  ·have hg := ZU hlt
   have z9 : (k : Int) < t.args.length := by omega
   have c := ih t.args[k] (by have := Qdd hlt; omega) (Qhe hlt o4)
   rw [Qhn hlt] at he
   cases hr : (t.args[k]).Qms with
   | true =>
    rw [hr] at c he
    repeat (first | ((first | (with_reducible (first | refine Qa fun K E hK hE => ?_ | refine Qr fun K E hK hE => ?_ | refine Qz c ?_))); simp -implicitDefEqProofs only [Qd, Qb, Qf, OpW, QQ, aop, AS.ev, Qc, Qn, Qg, Qnf, ↓reduceIte, Qm5, Qm6, Nat.reduceAdd, Nat.reduceLT, Nat.reduceEqDiff, Qm4, Qnq, Ql, QG, QH, Xg, aBin, aLen, Q0, QmS, QmT, QmU, Qm7, Qnb, Q3, XK, Xp, goInt, Qno, Qnv, Qnu, T.Qmp, T.Qmq, QK, ti22, ei22, un22, ti24, Xx, T.Qmq, T.Qmp, t1, t4, z9, hg, QK]) | (with_reducible (first | refine Qi fun K hK => ?_ | refine Qq ?_ | refine QD ?_ | refine Qj ?_ | refine QF ?_)) | ((with_reducible refine hK _ ?_); clear hK) | (refine Qk rfl ?_; simp only [↓reduceIte, QmW]))
    refine Yo.mk (m' := t.args.length - (k + 1)) (by omega) ?_
    rw [hI]
    refine ⟨k + 1, rfl, hlt, by rw [he]; rfl, t1, ?_, rfl⟩
    simp only [upd, ↓reduceIte]
    rw [Zi (by omega)]
   | false =>
    rw [hr] at c he
    repeat (first | ((first | (with_reducible (first | refine Qa fun K E hK hE => ?_ | refine Qz c ?_))); simp -implicitDefEqProofs only [Qd, Qb, Qf, OpW, QQ, aop, AS.ev, Qc, Qt, Qg, Qng, ↓reduceIte, Qm5, Qm6, Nat.reduceAdd, Nat.reduceLT, Nat.reduceEqDiff, Qm4, Qnq, Ql, QG, QH, Xg, aBin, aLen, Q0, QmS, QmT, QmU, Qm7, Qnb, Q3, Xp, goInt, Qno, Qnv, Qnu, T.Qmp, T.Qmq, QK, ti22, ei22, un22, ti24, Xx, T.Qmq, T.Qmp, t1, t4, z9, hg, QK]) | (with_reducible (first | refine Qi fun K hK => ?_ | refine Qq ?_ | refine Qm ?_ | refine QD ?_ | refine Qj ?_ | refine QA ?_ | refine QJ ?_)) | ((with_reducible refine hK _ ?_); clear hK) | (refine Qk rfl ?_; simp only [↓reduceIte]))
    simp only [QN, Qp, Qw, upd, ↓reduceIte, QmY, Qm2]; first | refine Qh (htake _ _) (.keep (.v _)) ⟨by rw [he]; rfl, rfl⟩ | refine Qh List.take_length (.keep (.v _)) ⟨by rw [he]; rfl, rfl⟩
  ·have z9 : ¬ (k : Int) < t.args.length := by omega
   have hkl : k = t.args.length := by omega
   rw [hkl, List.drop_length] at he
   repeat (first | (((with_reducible refine Qa fun K E hK hE => ?_)); simp -implicitDefEqProofs only [Qd, Qb, Qf, OpW, aop, AS.ev, Qc, Qt, Qg, ↓reduceIte, Nat.reduceLT, Nat.reduceEqDiff, Qm4, Ql, QG, QH, aBin, aLen, Q0, QmS, QmT, QmU, Q3, goInt, Qnp, T.Qmp, QK, ti22, un22, Xx, T.Qmp, t1, t4, z9, QK]) | (with_reducible (first | refine Qi fun K hK => ?_ | refine Qm ?_ | refine Xb ?_ | refine Qj ?_ | refine QA ?_ | refine Q5 ?_ | refine QJ ?_ | refine Q4 ?_)) | ((with_reducible refine hK _ ?_); clear hK) | (clear hK; (with_reducible refine hK _ ?_); clear hK) | (refine Qk rfl ?_; simp only [↓reduceIte, QmW]))
   simp only [QN, Qp, Qw, upd, ↓reduceIte, QmY, Qm2]; first | refine Qh (htake _ _) (.keep (.v _)) ⟨by rw [he]; rfl, rfl⟩ | refine Qh List.take_length (.keep (.v _)) ⟨by rw [he]; rfl, rfl⟩
 ·rw [hI]
  exact ⟨0, by omega, Nat.zero_le _, by rw [List.drop_zero], t1, rfl, rfl⟩
theorem QgE (n : Nat) : n ≤ 1000000 → ∀ t : T, t.nds ≤ n → t.ok → Pure Tryz.prog 61 [t.av] (.b t.Qms) := by
 induction n with
 | zero => intro _ t hn _; have := T.QmC t; omega
 | succ n ih =>
  intro hb t hn ho
  by_cases k0 : t.kind = 0
  ·exact QkG t k0
  by_cases k1 : t.kind = 1
  ·exact Qkv t k1
  by_cases k2 : t.kind = 2
  ·exact Qkw n (by omega) (ih (by omega)) t hn ho k2
  ·exact Qh9 t k0 k1 k2
theorem QbA (t : T) (hn : t.nds ≤ 1000000) (ho : t.ok) : Pure Tryz.prog 24 [t.av] (.b (t.run 200 20).1) := by
 intro h
 have hs := T.Qmz t
 have c1 := QgE 1000000 (Nat.le_refl _) t hn ho
 have c2 := QcJ 1000000 t (by omega) (Nat.le_refl _)
 have c3 := Qfc 1000000 t (by omega) (Nat.le_refl _)
 rw [T.QmK]
 cases hf : t.Qms with
 | false =>
  rw [hf] at c1
  refine Qe Tryz.func24 rfl Tryz.call24 Tryz.ntmps24 (congrArg Array.toList Tryz.results24) (by simp) ?_
  repeat (first | ((first | (with_reducible (first | refine Qa fun K E hK hE => ?_ | refine Qz c1 ?_))); simp -implicitDefEqProofs only [Qd, Qb, Qf, OpW, QQ, aop, undef, AS.ev, Qc, Qt, Qg, Qv, QmZ, AV.Qmr, Qnc, Qnd, Qs, Qu, QI, Qne, ↓reduceIte, Qm5, Qm6, Nat.reduceAdd, Nat.reduceLT, Nat.reduceEqDiff, Qm4, Qnq, QG, QH, Q0, QmS, QmT, QmU, QmX, QmV, Qm7, Qnb, QmW, beq_true, T.Qmp, T.Qmq, ti24, T.Qmq, T.Qmp]) | (with_reducible refine Qm ?_) | ((with_reducible refine hK _ ?_); clear hK))
  simp only [QN, Qp, Qw, upd, ↓reduceIte, QmY, Qm2]; first | refine Qh (htake _ _) (.keep (.v _)) ⟨rfl, rfl⟩ | refine Qh List.take_length (.keep (.v _)) ⟨rfl, rfl⟩
 | true =>
  rw [hf] at c1
  by_cases q1 : t.size ≤ 200
  ·have z1 : (t.size : Int) ≤ 200 := by omega
   by_cases q2 : t.dep ≤ 20
   ·have z2 : (t.dep : Int) ≤ 20 := by omega
    rw [decide_eq_true q1, decide_eq_true q2]
    refine Qe Tryz.func24 rfl Tryz.call24 Tryz.ntmps24 (congrArg Array.toList Tryz.results24) (by simp) ?_
    repeat (first | ((first | (with_reducible (first | refine Qa fun K E hK hE => ?_ | refine Qz c1 ?_ | refine Qz c2 ?_ | refine Qz c3 ?_))); simp -implicitDefEqProofs only [Qd, Qb, Qf, OpW, QQ, aop, undef, AS.ev, Qc, Qn, Qt, Qg, Qv, QmZ, AV.Qmr, Qnc, Qnd, Qs, Qu, QI, Qne, ↓reduceIte, Qm5, Qm6, Nat.reduceAdd, Nat.reduceLT, Nat.reduceEqDiff, Qm4, Qnq, QG, QH, aBin, Q0, QmS, QmT, QmU, QmX, QmV, Qm7, Qnb, Q9, Qno, Qm0, T.Qmp, T.Qmq, ti24, T.Qmq, T.Qmp, z1, z2]) | (with_reducible refine Qm ?_) | ((with_reducible refine hK _ ?_); clear hK))
    simp only [QN, Qp, Qw, upd, ↓reduceIte, QmY, Qm2]; first | refine Qh (htake _ _) (.keep (.v _)) ⟨rfl, rfl⟩ | refine Qh List.take_length (.keep (.v _)) ⟨rfl, rfl⟩
   ·have z2 : ¬ (t.dep : Int) ≤ 20 := by omega
    rw [decide_eq_true q1, decide_eq_false q2]
    refine Qe Tryz.func24 rfl Tryz.call24 Tryz.ntmps24 (congrArg Array.toList Tryz.results24) (by simp) ?_
    repeat (first | ((first | (with_reducible (first | refine Qa fun K E hK hE => ?_ | refine Qz c1 ?_ | refine Qz c2 ?_ | refine Qz c3 ?_))); simp -implicitDefEqProofs only [Qd, Qb, Qf, OpW, QQ, aop, undef, AS.ev, Qc, Qn, Qt, Qg, Qv, QmZ, AV.Qmr, Qnc, Qnd, Qs, Qu, QI, Qne, ↓reduceIte, Qm5, Qm6, Nat.reduceAdd, Nat.reduceLT, Nat.reduceEqDiff, Qm4, Qnq, QG, QH, aBin, Q0, QmS, QmT, QmU, QmX, QmV, Qm7, Qnb, Q9, Qno, Qnp, Qm0, T.Qmp, T.Qmq, ti24, T.Qmq, T.Qmp, z1, z2]) | (with_reducible refine Qm ?_) | ((with_reducible refine hK _ ?_); clear hK))
    simp only [QN, Qp, Qw, upd, ↓reduceIte, QmY, Qm2]; first | refine Qh (htake _ _) (.keep (.v _)) ⟨rfl, rfl⟩ | refine Qh List.take_length (.keep (.v _)) ⟨rfl, rfl⟩
  ·have z1 : ¬ (t.size : Int) ≤ 200 := by omega
   rw [decide_eq_false q1]
   refine Qe Tryz.func24 rfl Tryz.call24 Tryz.ntmps24 (congrArg Array.toList Tryz.results24) (by simp) ?_
   repeat (first | ((first | (with_reducible (first | refine Qa fun K E hK hE => ?_ | refine Qz c1 ?_ | refine Qz c2 ?_))); simp -implicitDefEqProofs only [Qd, Qb, Qf, OpW, QQ, aop, undef, AS.ev, Qc, Qn, Qt, Qg, Qv, QmZ, AV.Qmr, Qnc, Qnd, Qs, Qu, QI, Qne, ↓reduceIte, Qm5, Qm6, Nat.reduceAdd, Nat.reduceLT, Nat.reduceEqDiff, Qm4, Qnq, QG, QH, aBin, Q0, QmS, QmT, QmU, QmX, QmV, Qm7, Qnb, Q9, Qnp, Qm0, QmW, beq_true, T.Qmp, T.Qmq, ti24, T.Qmq, T.Qmp, z1]) | (with_reducible refine Qm ?_) | ((with_reducible refine hK _ ?_); clear hK))
   simp only [QN, Qp, Qw, upd, ↓reduceIte, QmY, Qm2]; first | refine Qh (htake _ _) (.keep (.v _)) ⟨rfl, rfl⟩ | refine Qh List.take_length (.keep (.v _)) ⟨rfl, rfl⟩
theorem Qcl (l : List T) (hn : ndsL l ≤ 1000000) (ho : oks l) : Pure Tryz.prog 65 [.sl 4 (avs l) none] (.b (runL l 200 20).1) := by
 intro h
 have hll := Zt l
 rw [← Qkc]
 refine Qe Tryz.func65 rfl Tryz.call65 Tryz.ntmps65 (congrArg Array.toList Tryz.results65) (by simp) ?_
 repeat (first | (((with_reducible refine Qa fun K E hK hE => ?_)); simp -implicitDefEqProofs only [Qd, Qb, Qf, OpW, aop, AS.ev, Qc, Qn, Qt, Nat.reduceLT]) | (with_reducible (first | refine Qi fun K hK => ?_ | refine Qq ?_)) | ((with_reducible refine hK _ ?_); clear hK))
 obtain ⟨I, hI⟩ : ∃ I : Nat → AS → Prop, I = fun m' s => ∃ (k n : Nat), m' = l.length - k ∧ k ≤ l.length ∧ n + sizes (l.drop k) ≤ 1000000 ∧ rargs l 0 = rargs (l.drop k) n ∧ s.tm 0 = .sl 4 (avs l) none ∧ s.tm 3 = .i n ∧ s.tm 4 = .i k ∧ s.h = h := ⟨_, rfl⟩; refine XJ I ?_ (m := l.length) ?_
 ·intro m' s hs; rw [hI] at hs; obtain ⟨tm, hp⟩ := s; dsimp only at hs; obtain ⟨k, n, rfl, hk, hs, he, t0, t3, t4, rfl⟩ := hs
  by_cases hlt : k < l.length
  ·have hg := ZU hlt
   have z9 : (k : Int) < l.length := by omega
   have hnk : (l[k]).nds ≤ 1000000 := by have := Qdd hlt; omega
   have c := QbA l[k] hnk (Qhe hlt ho)
   have c2 := QcJ 1000000 l[k] (by have := T.Qmz l[k]; omega) (Nat.le_refl _)
   rw [List.drop_eq_getElem_cons hlt, rargs] at he
   rw [List.drop_eq_getElem_cons hlt, sizes] at hs
   have hw : IntKind.i64.wrap ((n : Int) + ((l[k]).size : Nat)) = ((n + (l[k]).size : Nat) : Int) := by rw [YP (by omega)]; omega
   cases hr : ((l[k]).run 200 20).1 with
   | true =>
    rw [hr] at c he
    repeat (first | ((first | (with_reducible (first | refine Qa fun K E hK hE => ?_ | refine Qr fun K E hK hE => ?_ | refine Qz c ?_ | refine Qz c2 ?_))); simp -implicitDefEqProofs only [Qd, Qb, Qf, OpW, QQ, aop, AS.ev, Qc, Qn, Qg, Qnf, ↓reduceIte, Qm5, Qm6, Nat.reduceAdd, Nat.reduceLT, Nat.reduceEqDiff, Qm4, Qnq, QG, QH, Xg, aBin, aLen, QmU, Qm7, Qnb, Q3, XK, Xp, goInt, Qno, Qnv, Qnu, T.Qmp, T.Qmq, QK, ei22, un22, ti24, t0, t3, t4, z9, hg, QK, hw]) | (with_reducible (first | refine Qi fun K hK => ?_ | refine Qq ?_ | refine QD ?_ | refine Qj ?_ | refine QF ?_)) | ((with_reducible refine hK _ ?_); clear hK) | (refine Qk rfl ?_; simp only [↓reduceIte, QmW]))
    refine Yo.mk (m' := l.length - (k + 1)) (by omega) ?_
    rw [hI]
    refine ⟨k + 1, n + (l[k]).size, rfl, hlt, by omega, by rw [he]; rfl, t0, rfl, ?_, rfl⟩
    simp only [upd, ↓reduceIte]
    rw [Zi (by omega)]
   | false =>
    rw [hr] at c he
    repeat (first | ((first | (with_reducible (first | refine Qa fun K E hK hE => ?_ | refine Qz c ?_))); simp -implicitDefEqProofs only [Qd, Qb, Qf, OpW, QQ, aop, AS.ev, Qc, Qt, Qg, Qng, ↓reduceIte, Qm5, Qm6, Nat.reduceAdd, Nat.reduceLT, Nat.reduceEqDiff, Qm4, Qnq, QG, QH, Xg, aBin, aLen, QmU, Qm7, Qnb, Q3, Xp, goInt, Qno, Qnv, Qnu, T.Qmp, T.Qmq, QK, ei22, un22, ti24, t0, t4, z9, hg, QK]) | (with_reducible (first | refine Qi fun K hK => ?_ | refine Qq ?_ | refine Qm ?_ | refine QD ?_ | refine Qj ?_ | refine QA ?_ | refine QJ ?_)) | ((with_reducible refine hK _ ?_); clear hK) | (refine Qk rfl ?_; simp only [↓reduceIte]))
    simp only [QN, Qp, Qw, upd, ↓reduceIte, QmY, Qm2]
    exact Qh (QjB _) (.keep (.v _)) ⟨by rw [he]; rfl, rfl⟩
  ·have z9 : ¬ (k : Int) < l.length := by omega
   have hkl : k = l.length := by omega
   rw [hkl, List.drop_length, rargs] at he
   by_cases q : n ≤ 200
   ·have z1 : (n : Int) ≤ 200 := by omega
    repeat (first | (((with_reducible refine Qa fun K E hK hE => ?_)); simp -implicitDefEqProofs only [Qd, Qb, Qf, OpW, aop, AS.ev, Qc, Qn, Qg, ↓reduceIte, Nat.reduceLT, Nat.reduceEqDiff, aBin, aLen, QmU, Q3, Q9, goInt, Qno, Qnp, QK, un22, t0, t3, t4, z9, z1, QK]) | (with_reducible (first | refine Qi fun K hK => ?_ | refine Qm ?_ | refine Xb ?_ | refine Qj ?_ | refine Q5 ?_ | refine Q4 ?_)) | ((with_reducible refine hK _ ?_); clear hK) | (clear hK; (with_reducible refine hK _ ?_); clear hK) | (refine Qk rfl ?_; simp only [↓reduceIte, QmW]))
    simp only [QN, Qp, Qw, upd, ↓reduceIte, QmY, Qm2]
    exact Qh (QjB _) (.keep (.v _)) ⟨by rw [he, decide_eq_true q], rfl⟩
   ·have z1 : ¬ (n : Int) ≤ 200 := by omega
    repeat (first | (((with_reducible refine Qa fun K E hK hE => ?_)); simp -implicitDefEqProofs only [Qd, Qb, Qf, OpW, aop, AS.ev, Qc, Qn, Qg, ↓reduceIte, Nat.reduceLT, Nat.reduceEqDiff, aBin, aLen, QmU, Q3, Q9, goInt, Qnp, QK, un22, t0, t3, t4, z9, z1, QK]) | (with_reducible (first | refine Qi fun K hK => ?_ | refine Qm ?_ | refine Xb ?_ | refine Qj ?_ | refine Q5 ?_ | refine Q4 ?_)) | ((with_reducible refine hK _ ?_); clear hK) | (clear hK; (with_reducible refine hK _ ?_); clear hK) | (refine Qk rfl ?_; simp only [↓reduceIte, QmW]))
    simp only [QN, Qp, Qw, upd, ↓reduceIte, QmY, Qm2]
    exact Qh (QjB _) (.keep (.v _)) ⟨by rw [he, decide_eq_false q], rfl⟩
 ·rw [hI]
  exact ⟨0, 0, by omega, Nat.zero_le _, by have := Qdz l; simp only [Qm9]; omega, by rw [List.drop_zero], rfl, rfl, rfl, rfl⟩
theorem Qcz (g : G) (hn : ndsL g.args ≤ 1000000) (ho : g.ok) : Pure Tryz.prog 27 [g.atom] (.b (Xc g)) := by
 intro h
 obtain ⟨o1, o2, o3⟩ := ho
 have cr : Pure Tryz.prog 64 [.v (.string g.name)] (.b (Yp g.name)) := QaD g.name (by simp only [maxLen]; omega)
 have ca := Qcl g.args hn o3
 cases hr : Yp g.name with
 | false =>
  rw [hr] at cr
  refine Qe Tryz.func27 rfl Tryz.call27 Tryz.ntmps27 (congrArg Array.toList Tryz.results27) (by simp) ?_
  repeat (first | ((first | (with_reducible (first | refine Qa fun K E hK hE => ?_ | refine Qz cr ?_))); simp -implicitDefEqProofs only [Qd, Qb, Qf, OpW, QQ, aop, undef, AS.ev, Qc, Qt, Qg, Qv, QmZ, AV.Qmr, Qnc, Qnd, Qu, QI, Qne, ↓reduceIte, Qm5, Qm6, Nat.reduceAdd, Nat.reduceLT, Nat.reduceEqDiff, Qm4, Qnh, Ql, QG, QH, Q0, QmS, QmT, QmU, QmX, QmV, Qm7, Qnb, QmW, beq_true, ti9, QcH, Xy]) | (with_reducible refine Qm ?_) | ((with_reducible refine hK _ ?_); clear hK))
  simp only [QN, Qp, Qw, upd, ↓reduceIte, QmY, Qm2]; first | refine Qh (htake _ _) (.keep (.v _)) ⟨by rw [Xc, hr]; rfl, rfl⟩ | refine Qh List.take_length (.keep (.v _)) ⟨by rw [Xc, hr]; rfl, rfl⟩
 | true =>
  rw [hr] at cr
  by_cases q : g.args.length ≤ 6
  ·have z : (g.args.length : Int) ≤ 6 := by omega
   refine Qe Tryz.func27 rfl Tryz.call27 Tryz.ntmps27 (congrArg Array.toList Tryz.results27) (by simp) ?_
   repeat (first | ((first | (with_reducible (first | refine Qa fun K E hK hE => ?_ | refine Qz cr ?_ | refine Qz ca ?_))); simp -implicitDefEqProofs only [Qd, Qb, Qf, OpW, QQ, aop, undef, AS.ev, Qc, Qn, Qt, Qg, Qv, QmZ, AV.Qmr, Qnc, Qnd, Qu, QI, Qne, ↓reduceIte, Qm5, Qm6, Nat.reduceAdd, Nat.reduceLT, Nat.reduceEqDiff, Qm4, Qnh, Ql, QG, QH, aBin, aLen, Q0, QmS, QmT, QmU, QmX, QmV, Qm7, Qnb, Q9, goInt, Qno, Qm0, QK, ti9, ti22, un22, QcH, Qeu, Xy, QK, z]) | (with_reducible refine Qm ?_) | ((with_reducible refine hK _ ?_); clear hK))
   simp only [QN, Qp, Qw, upd, ↓reduceIte, QmY, Qm2]; first | refine Qh (htake _ _) (.keep (.v _)) ⟨by rw [Xc, hr, decide_eq_true q]; rfl, rfl⟩ | refine Qh List.take_length (.keep (.v _)) ⟨by rw [Xc, hr, decide_eq_true q]; rfl, rfl⟩
  ·have z : ¬ (g.args.length : Int) ≤ 6 := by omega
   refine Qe Tryz.func27 rfl Tryz.call27 Tryz.ntmps27 (congrArg Array.toList Tryz.results27) (by simp) ?_
   repeat (first | ((first | (with_reducible (first | refine Qa fun K E hK hE => ?_ | refine Qz cr ?_))); simp -implicitDefEqProofs only [Qd, Qb, Qf, OpW, QQ, aop, undef, AS.ev, Qc, Qn, Qt, Qg, Qv, QmZ, AV.Qmr, Qnc, Qnd, Qu, QI, Qne, ↓reduceIte, Qm5, Qm6, Nat.reduceAdd, Nat.reduceLT, Nat.reduceEqDiff, Qm4, Qnh, Ql, QG, QH, aBin, aLen, Q0, QmS, QmT, QmU, QmX, QmV, Qm7, Qnb, Q9, goInt, Qnp, Qm0, QmW, beq_true, QK, ti9, ti22, un22, QcH, Qeu, Xy, QK, z]) | (with_reducible refine Qm ?_) | ((with_reducible refine hK _ ?_); clear hK))
   simp only [QN, Qp, Qw, upd, ↓reduceIte, QmY, Qm2]; first | refine Qh (htake _ _) (.keep (.v _)) ⟨by rw [Xc, hr, decide_eq_false q]; rfl, rfl⟩ | refine Qh List.take_length (.keep (.v _)) ⟨by rw [Xc, hr, decide_eq_false q]; rfl, rfl⟩
end Go.Proofs.YtehjodmnajgdgaaGreatDoor.Ab
set_option maxRecDepth 4000
namespace Go.Proofs.YtehjodmnajgdgaaGreatDoor.Ab
open Go.Proofs
end Go.Proofs.YtehjodmnajgdgaaGreatDoor.Ab
set_option maxRecDepth 4000
namespace Go.Proofs.YtehjodmnajgdgaaGreatDoor.Ab
open Go.Proofs
end Go.Proofs.YtehjodmnajgdgaaGreatDoor.Ab
