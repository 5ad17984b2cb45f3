/-
  An abstract program logic, contracts of functions, and laws of terms and rules (part 4).
-/
import Derived.Test.YtniljpjjnmkoaaaGreatDoorAbThree
import Derived.Test.YtniljpjjnmkoaaaGreatDoorAbTwo
import Derived.ProofKit
import Derived.WalkKit
import Derived.OpenShut
import Derived.LaidSub
import Derived.Lib.LaidTab
import Derived.Lib.Strings
import Derived.Lib.ItoaNum
import Derived.Lib.ItoaMem
import Derived.Lib.AtoiTie
set_option linter.unusedVariables false
set_option linter.unusedSimpArgs false
set_option maxHeartbeats 4000000
set_option maxRecDepth 4000
namespace Go.Proofs.YtniljpjjnmkoaaaGreatDoor.Ab
open Go.Proofs
def ascF : Option Int → List (Int × T) → Bool
 | _, [] => true
 | p, x :: l => !decide (x.1 < 0) && (!decide (x.1 > 1048576) && ((match p with | none => true | some q => !decide (q ≥ x.1)) && (x.2.runOk && ascF (some x.1) l)))
def bound (b : List (Int × T)) (v : Int) : Bool := b.any fun x => x.1 == v
def Yo (t : T) : List Int := (walks YG [] [t]).2
def Qck (b : List (Int × T)) (l : List (Int × T)) : Bool := l.all fun x => (Yo x.2).all fun v => !bound b v
def rightS (b : List (Int × T)) : Bool := ascF none b && Qck b b
def Qj1 (b : List (Int × T)) : Nat → Option Int
 | 0 => none
 | j + 1 => some (b.getD j (0, T.zero)).1
def bmap (b : List (Int × T)) : List (Int × AV) := b.map fun x => (x.1, AV.agg [])
theorem QeZ (b : List (Int × T)) (v : Int) : QaS v (bmap b) = if bound b v = true then some (.agg []) else none := by
 induction b with
 | nil => rfl
 | cons x b ih =>
  show (if v = x.1 then some (AV.agg []) else QaS v (bmap b)) = _
  rw [ih]
  by_cases h : v = x.1
  ·rw [if_pos h, if_pos (by simp [bound, h])]
  ·rw [if_neg h]
   have e : bound (x :: b) v = bound b v := by
    simp only [bound, List.any_cons]
    have : (x.1 == v) = false := by simp; omega
    rw [this, Bool.false_or]
   rw [e]
theorem Qjv {b : List (Int × T)} {j : Nat} (h : j < b.length) (hb : ∀ k (hk : k < j), (b[k]'(by omega)).1 < (b[j]).1) : QaS (b[j]).1 (bmap (b.take j)) = none := by
 rw [QeZ, if_neg]
 intro hq
 simp only [bound, List.any_eq_true, beq_iff_eq] at hq
 obtain ⟨x, hx, e⟩ := hq
 obtain ⟨k, hk, rfl⟩ := List.getElem_of_mem hx
 simp only [List.length_take] at hk
 rw [List.getElem_take] at e
 have := hb k (by omega)
 omega
theorem QgY {b : List (Int × T)} {j : Nat} (h : j < b.length) : bmap (b.take (j + 1)) = bmap (b.take j) ++ [((b[j]).1, .agg [])] := by
 rw [bmap, bmap, List.take_succ_eq_append_getElem h, List.map_append]; rfl
theorem Qkv : ∀ (s : List Int) (n : Int), (YG s n).2.length ≤ s.length + 1 := fun s n => by
 simp only [YG]; split
 ·omega
 ·rw [List.length_append, List.length_singleton]; exact Nat.le_refl _
theorem Qce (t : T) (hn : t.nds ≤ 1000000) : (Yo t).length ≤ 1000000 := by
 have := Qb5 (σ := List Int) (g := YG) (J := fun s j => s.length + j ≤ ndsL [t]) (fun s n j h => by have := Qkv s n; omega) (fun s j j' h hl => by omega) 0 [] [t] (by simp)
 simp only [ndsL] at this
 unfold Yo
 omega
theorem Qba (b : List (Int × T)) (hb : b.length ≤ 1000000) (hn : ∀ x ∈ b, x.2.nds ≤ 1000000) (ho : ∀ x ∈ b, i64 x.1 ∧ x.2.ok) : Pure Tryz.prog 34 [.sl 5 (bavs b) none] (.b (rightS b)) := by
 intro h
 have hM : QhW Tryz.prog 107 = true := by kernel_rfl
 refine Qe Tryz.func34 rfl Tryz.call34 Tryz.ntmps34 (congrArg Array.toList Tryz.results34) (by simp) ?_
 repeat (first | (((with_reducible refine Qa fun K E hK hE => ?_)); simp -implicitDefEqProofs only [Qg, Qh, OpW, aop, undef, AS.ev, Qy, ↓reduceIte, aLen, goInt, un23, QS, hM, seval]) | (with_reducible (first | refine Qc fun K hK => ?_ | refine Qi ?_)) | ((with_reducible refine hK _ ?_); clear hK))
 obtain ⟨I, hI⟩ : ∃ I : Nat → AS → Prop, I = fun m' s => ∃ (j : Nat) (L : AH), m' = b.length - j ∧ j ≤ b.length ∧ ascF none b = ascF (Qj1 b j) (b.drop j) ∧ (∀ k (hk : k < j) (i : Nat) (hi : i < j), k ≤ i → ∀ (h1 : k < b.length) (h2 : i < b.length), (b[k]).1 ≤ (b[i]).1) ∧ s.tm 0 = .sl 5 (bavs b) none ∧ s.tm 3 = .mp h.length ∧ s.tm 15 = .sl 5 (bavs b) none ∧ s.tm 16 = .i b.length ∧ s.tm 17 = .i j ∧ s.h = h ++ ([.map (imap (bmap (b.take j)))] ++ L) := ⟨_, rfl⟩; refine QJ I ?_ (m := b.length) ?_
 ·intro m' s hs; rw [hI] at hs; obtain ⟨tm, hp⟩ := s; dsimp only at hs; obtain ⟨j, L, rfl, hj, hr, hasc, t0, t3, t15, t16, t17, rfl⟩ := hs
  by_cases hlt : j < b.length
  ·rw [List.drop_eq_getElem_cons hlt] at hr
   have hbj := ho b[j] (List.getElem_mem hlt)
   have c1 := Qa5 b[j].2
   rw [T.Qp0] at c1
   have hnn : b[j].2.nds ≤ 1000000 := hn b[j] (List.getElem_mem hlt)
   by_cases k1 : b[j].1 < 0
   ·have e : ascF none b = false := by rw [hr]; simp [ascF, k1]
    repeat (first | (((with_reducible refine Qa fun K E hK hE => ?_)); simp -implicitDefEqProofs only [Qg, Qh, OpW, aop, undef, AS.ev, AV.QpF, ↓reduceIte, QC, QD, QL, QF, Qz, aBin, ei23, ti52, zi52, t15, t16, t17, hlt, QS, XG hlt, QR, Xm, seval]) | (with_reducible (first | refine Qc fun K hK => ?_ | refine Qi ?_ | refine Qk ?_ | refine Qb ?_)) | ((with_reducible refine hK _ ?_); clear hK) | (refine Qf rfl ?_; simp only [↓reduceIte]))
    first | refine Qt (id := 5) [(0, 0), (1, 0), (2, 0), (3, 0), (4, 0), (5, 0), (6, 0), (7, 0), (8, 0), (9, 0), (10, 0), (11, 0), (12, 0), (13, 0), (14, 0), (15, 0), (16, 0), (17, 0), (18, 0), (19, 0), (20, 0), (21, 0), (22, 0), (23, 0), (24, 0), (25, 0), (26, 1), (27, 0), (28, 0)] mixed (by kernel_rfl) fun K hK => ?_ | refine QH (id := 5) [(0, 0), (1, 0), (2, 0), (3, 0), (4, 0), (5, 0), (6, 0), (7, 0), (8, 0), (9, 0), (10, 0), (11, 0), (12, 0), (13, 0), (14, 0), (15, 0), (16, 0), (17, 0), (18, 0), (19, 0), (20, 0), (21, 0), (22, 0), (23, 0), (24, 0), (25, 0), (26, 1), (27, 0), (28, 0)] mixed (by kernel_rfl) fun K hK => ?_
    (try simp only [QqB, QqJ]); refine Xb 8 (fun K1 hK1 => ?_); simp -implicitDefEqProofs only [Qg, Qh, aop, undef, AS.ev, ↓reduceIte, Qp, QC, QD, aBin, ti3, Zp, QR, k1, seval]; refine hK1 _ ?_; clear hK1
    (try simp only [QqB, QqJ]); refine Xb 8 (fun K1 hK1 => ?_); simp -implicitDefEqProofs only [Qg, Qh, aop, undef, AS.ev, ↓reduceIte, seval]; refine hK1 _ ?_; clear hK1
    (try simp only [QqB, QqJ]); refine Xb 8 (fun K1 hK1 => ?_); simp -implicitDefEqProofs only [Qg, Qh, aop, undef, AS.ev, ↓reduceIte, seval]; refine hK1 _ ?_; clear hK1
    (try simp only [QqB, QqJ])
    simp -implicitDefEqProofs only [Qg, Qh, aop, undef, AS.ev, ↓reduceIte, seval]
    repeat (first | (((with_reducible refine Qa fun K E hK hE => ?_)); simp -implicitDefEqProofs only [XI, XT, Qh, OpW, aop, AS.ev, XH, Qar, Nat.reduceLT]) | (with_reducible (first | refine Qj ?_ | refine Qb ?_ | refine Qo ?_ | refine Qs ?_)) | ((with_reducible refine hK _ ?_); clear hK) | (refine Qf rfl ?_; simp only [↓reduceIte]))
    simp only [QE, Ql, Qr, upd, ↓reduceIte, Qqy, QqC]; first | refine Qd (htake _ _) (.keep (.v _)) ⟨by rw [rightS, e]; rfl, rfl⟩ | refine Qd List.take_length (.keep (.v _)) ⟨by rw [rightS, e]; rfl, rfl⟩
   by_cases k2 : b[j].1 > 1048576
   ·have e : ascF none b = false := by rw [hr]; simp [ascF, k2]
    repeat (first | (((with_reducible refine Qa fun K E hK hE => ?_)); simp -implicitDefEqProofs only [Qg, Qh, OpW, aop, undef, AS.ev, AV.QpF, ↓reduceIte, QC, QD, QL, QF, Qz, aBin, ei23, ti52, zi52, t15, t16, t17, hlt, QS, XG hlt, QR, Xm, seval]) | (with_reducible (first | refine Qc fun K hK => ?_ | refine Qi ?_ | refine Qk ?_ | refine Qb ?_)) | ((with_reducible refine hK _ ?_); clear hK) | (refine Qf rfl ?_; simp only [↓reduceIte]))
    first | refine Qt (id := 5) [(0, 0), (1, 0), (2, 0), (3, 0), (4, 0), (5, 0), (6, 0), (7, 0), (8, 0), (9, 0), (10, 0), (11, 0), (12, 0), (13, 0), (14, 0), (15, 0), (16, 0), (17, 0), (18, 0), (19, 0), (20, 0), (21, 0), (22, 0), (23, 0), (24, 0), (25, 0), (26, 1), (27, 0), (28, 0)] mixed (by kernel_rfl) fun K hK => ?_ | refine QH (id := 5) [(0, 0), (1, 0), (2, 0), (3, 0), (4, 0), (5, 0), (6, 0), (7, 0), (8, 0), (9, 0), (10, 0), (11, 0), (12, 0), (13, 0), (14, 0), (15, 0), (16, 0), (17, 0), (18, 0), (19, 0), (20, 0), (21, 0), (22, 0), (23, 0), (24, 0), (25, 0), (26, 1), (27, 0), (28, 0)] mixed (by kernel_rfl) fun K hK => ?_
    (try simp only [QqB, QqJ]); refine Xb 8 (fun K1 hK1 => ?_); simp -implicitDefEqProofs only [Qg, Qh, aop, AS.ev, ↓reduceIte, Qp, QC, QD, aBin, ti3, Zp, QR, k1, k2, seval]; refine hK1 _ ?_; clear hK1
    (try simp only [QqB, QqJ]); refine Xb 8 (fun K1 hK1 => ?_); simp -implicitDefEqProofs only [Qg, Qh, aop, undef, AS.ev, ↓reduceIte, seval]; refine hK1 _ ?_; clear hK1
    (try simp only [QqB, QqJ]); refine Xb 8 (fun K1 hK1 => ?_); simp -implicitDefEqProofs only [Qg, Qh, aop, undef, AS.ev, ↓reduceIte, seval]; refine hK1 _ ?_; clear hK1
    (try simp only [QqB, QqJ])
    simp -implicitDefEqProofs only [Qg, Qh, aop, undef, AS.ev, ↓reduceIte, seval]
    repeat (first | (((with_reducible refine Qa fun K E hK hE => ?_)); simp -implicitDefEqProofs only [XI, XT, Qh, OpW, aop, AS.ev, XH, Qar, Nat.reduceLT]) | (with_reducible (first | refine Qj ?_ | refine Qb ?_ | refine Qo ?_ | refine Qs ?_)) | ((with_reducible refine hK _ ?_); clear hK) | (refine Qf rfl ?_; simp only [↓reduceIte]))
    simp only [QE, Ql, Qr, upd, ↓reduceIte, Qqy, QqC]; first | refine Qd (htake _ _) (.keep (.v _)) ⟨by rw [rightS, e]; rfl, rfl⟩ | refine Qd List.take_length (.keep (.v _)) ⟨by rw [rightS, e]; rfl, rfl⟩
   have hpv : Qj1 b (j + 1) = some b[j].1 := by simp only [Qj1]; rw [List.getD_eq_getElem?_getD, List.getElem?_eq_getElem hlt]; rfl
   have hup0 : (∀ k (hk : k < j), (b[k]'(by omega)).1 < (b[j]).1) → updA (.int .i64) (.int .i64 (b[j]).1) (.agg []) (imap (bmap (b.take j))) = some (imap (bmap (b.take j) ++ [((b[j]).1, .agg [])])) := fun q =>
    QcM _ _ _ (Qjv hlt q)
   by_cases hj0 : j = 0
   ·have hjz : ¬ ((j : Int) > 0) := by omega
    have hup := hup0 (fun k hk => by omega)
    have hasc' : ∀ k (hk : k < j + 1) (i : Nat) (hi : i < j + 1), k ≤ i → ∀ (h1 : k < b.length) (h2 : i < b.length), (b[k]).1 ≤ (b[i]).1 := fun k hk i hi hki h1 h2 => by
     have e1 : k = 0 := by omega
     have e2 : i = 0 := by omega
     subst e1; subst e2; exact Int.le_refl _
    have hprev : Qj1 b j = none := by rw [hj0]; rfl
    rw [hprev] at hr
    cases hrt : b[j].2.runOk with
    | false =>
     rw [hrt] at c1
     have e : ascF none b = false := by rw [hr]; simp [ascF, hrt]
     repeat (first | (((with_reducible refine Qa fun K E hK hE => ?_)); simp -implicitDefEqProofs only [Qg, Qh, OpW, aop, undef, AS.ev, AV.QpF, ↓reduceIte, QC, QD, QL, QF, Qz, aBin, ei23, ti52, zi52, t15, t16, t17, hlt, QS, XG hlt, QR, Xm, seval]) | (with_reducible (first | refine Qc fun K hK => ?_ | refine Qi ?_ | refine Qk ?_ | refine Qb ?_)) | ((with_reducible refine hK _ ?_); clear hK) | (refine Qf rfl ?_; simp only [↓reduceIte]))
     first | refine Qt (id := 5) [(0, 0), (1, 0), (2, 0), (3, 0), (4, 0), (5, 0), (6, 0), (7, 0), (8, 0), (9, 0), (10, 0), (11, 0), (12, 0), (13, 0), (14, 0), (15, 0), (16, 0), (17, 0), (18, 0), (19, 0), (20, 0), (21, 0), (22, 0), (23, 0), (24, 0), (25, 0), (26, 1), (27, 0), (28, 0)] mixed (by kernel_rfl) fun K hK => ?_ | refine QH (id := 5) [(0, 0), (1, 0), (2, 0), (3, 0), (4, 0), (5, 0), (6, 0), (7, 0), (8, 0), (9, 0), (10, 0), (11, 0), (12, 0), (13, 0), (14, 0), (15, 0), (16, 0), (17, 0), (18, 0), (19, 0), (20, 0), (21, 0), (22, 0), (23, 0), (24, 0), (25, 0), (26, 1), (27, 0), (28, 0)] mixed (by kernel_rfl) fun K hK => ?_
     (try simp only [QqB, QqJ]); refine Xb 8 (fun K1 hK1 => ?_); simp -implicitDefEqProofs only [Qg, Qh, aop, AS.ev, ↓reduceIte, Qp, QC, QD, aBin, ti3, Zp, QR, k1, k2, seval]; refine hK1 _ ?_; clear hK1
     (try simp only [QqB, QqJ]); refine Xb 8 (fun K1 hK1 => ?_); simp -implicitDefEqProofs only [Qg, Qh, aop, undef, AS.ev, ↓reduceIte, aBin, hjz, seval]; refine hK1 _ ?_; clear hK1
     (try simp only [QqB, QqJ]); refine Xb 8 (fun K1 hK1 => ?_); simp -implicitDefEqProofs only [Qg, Qh, aop, undef, AS.ev, ↓reduceIte, seval]; refine hK1 _ ?_; clear hK1
     (try simp only [QqB, QqJ])
     simp -implicitDefEqProofs only [Qg, Qh, aop, AS.ev, ↓reduceIte, Qp, QC, QD, ti41, Qci, QR, Xm, seval]
     repeat (first | ((first | (with_reducible (first | refine Qa fun K E hK hE => ?_ | refine Qu c1 ?_))); simp -implicitDefEqProofs only [Qg, Qh, OpW, aop, AS.ev, ↓reduceIte, seval]) | (with_reducible (first | refine Qj ?_ | refine Qb ?_ | refine Qo ?_ | refine Qs ?_)) | ((with_reducible refine hK _ ?_); clear hK) | (refine Qf rfl ?_; simp only [↓reduceIte]))
     simp only [QE, Ql, Qr, upd, ↓reduceIte, Qqy, QqC]; first | refine Qd (htake _ _) (.keep (.v _)) ⟨by rw [rightS, e]; rfl, rfl⟩ | refine Qd List.take_length (.keep (.v _)) ⟨by rw [rightS, e]; rfl, rfl⟩
    | true =>
     rw [hrt] at c1
     repeat (first | (((with_reducible refine Qa fun K E hK hE => ?_)); simp -implicitDefEqProofs only [Qg, Qh, OpW, aop, undef, AS.ev, AV.QpF, ↓reduceIte, QC, QD, QL, QF, Qz, aBin, ei23, ti52, zi52, t15, t16, t17, hlt, QS, XG hlt, QR, Xm, seval]) | (with_reducible (first | refine Qc fun K hK => ?_ | refine Qi ?_ | refine Qk ?_ | refine Qb ?_)) | ((with_reducible refine hK _ ?_); clear hK) | (refine Qf rfl ?_; simp only [↓reduceIte]))
     first | refine Qt (id := 5) [(0, 0), (1, 0), (2, 0), (3, 0), (4, 0), (5, 0), (6, 0), (7, 0), (8, 0), (9, 0), (10, 0), (11, 0), (12, 0), (13, 0), (14, 0), (15, 0), (16, 0), (17, 0), (18, 0), (19, 0), (20, 0), (21, 0), (22, 0), (23, 0), (24, 0), (25, 0), (26, 1), (27, 0), (28, 0)] mixed (by kernel_rfl) fun K hK => ?_ | refine QH (id := 5) [(0, 0), (1, 0), (2, 0), (3, 0), (4, 0), (5, 0), (6, 0), (7, 0), (8, 0), (9, 0), (10, 0), (11, 0), (12, 0), (13, 0), (14, 0), (15, 0), (16, 0), (17, 0), (18, 0), (19, 0), (20, 0), (21, 0), (22, 0), (23, 0), (24, 0), (25, 0), (26, 1), (27, 0), (28, 0)] mixed (by kernel_rfl) fun K hK => ?_
     (try simp only [QqB, QqJ]); refine Xb 8 (fun K1 hK1 => ?_); simp -implicitDefEqProofs only [Qg, Qh, aop, AS.ev, ↓reduceIte, Qp, QC, QD, aBin, ti3, Zp, QR, k1, k2, seval]; refine hK1 _ ?_; clear hK1
     (try simp only [QqB, QqJ]); refine Xb 8 (fun K1 hK1 => ?_); simp -implicitDefEqProofs only [Qg, Qh, aop, undef, AS.ev, ↓reduceIte, aBin, hjz, seval]; refine hK1 _ ?_; clear hK1
     (try simp only [QqB, QqJ]); refine Xb 8 (fun K1 hK1 => ?_); simp -implicitDefEqProofs only [Qg, Qh, aop, undef, AS.ev, ↓reduceIte, seval]; refine hK1 _ ?_; clear hK1
     (try simp only [QqB, QqJ])
     simp -implicitDefEqProofs only [Qg, Qh, aop, AS.ev, ↓reduceIte, Qp, QC, QD, ti41, Qci, QR, Xm, seval]
     repeat (first | ((first | (with_reducible (first | refine Qm fun K E hK hE => ?_ | refine Qu c1 ?_))); simp -implicitDefEqProofs only [Qg, Qh, OpW, aop, undef, AS.ev, AV.QpF, ↓reduceIte, Qp, QC, QD, aBin, Xy, XR, X7, ti3, Zp, QmI, Qmm, QoE, t3, t17, QR, hup, seval]) | (with_reducible (first | refine Qk ?_ | refine Qb ?_ | refine Qn ?_)) | ((with_reducible refine hK _ ?_); clear hK) | (refine Qf rfl ?_; simp only [↓reduceIte, Qqw]))
     refine Q1.mk (m' := b.length - (j + 1)) (by omega) ?_
     rw [hI]
     refine ⟨j + 1, L ++ [.cells 52 5 [bav b[j]]], rfl, hlt, ?_, hasc', t0, t3, t15, t16, ?_, ?_⟩
     ·rw [hr, hpv]
      simp [ascF, k1, k2, hrt]
     ·simp only [upd, ↓reduceIte]
      rw [QP (by omega)]
     ·rw [QgY hlt]; simp
   ·have hjz : (j : Int) > 0 := by omega
    have hw1 : IntKind.i64.wrap ((j : Int) - 1) = ((j - 1 : Nat) : Int) := by rw [Xp (by omega)]; omega
    have hlt1 : j - 1 < b.length := by omega
    have hprev : Qj1 b j = some (b[j - 1]).1 := by
     obtain ⟨i, rfl⟩ : ∃ i, j = i + 1 := ⟨j - 1, by omega⟩
     simp only [Qj1, Nat.add_sub_cancel]; rw [List.getD_eq_getElem?_getD, List.getElem?_eq_getElem (by omega)]; rfl
    rw [hprev] at hr
    by_cases k3 : b[j].1 ≤ (b[j - 1]).1
    ·have e : ascF none b = false := by rw [hr]; simp [ascF, k3]
     repeat (first | (((with_reducible refine Qa fun K E hK hE => ?_)); simp -implicitDefEqProofs only [Qg, Qh, OpW, aop, undef, AS.ev, AV.QpF, ↓reduceIte, QC, QD, QL, QF, Qz, aBin, ei23, ti52, zi52, t15, t16, t17, hlt, QS, XG hlt, QR, Xm, seval]) | (with_reducible (first | refine Qc fun K hK => ?_ | refine Qi ?_ | refine Qk ?_ | refine Qb ?_)) | ((with_reducible refine hK _ ?_); clear hK) | (refine Qf rfl ?_; simp only [↓reduceIte]))
     first | refine Qt (id := 5) [(0, 0), (1, 0), (2, 0), (3, 0), (4, 0), (5, 0), (6, 0), (7, 0), (8, 0), (9, 0), (10, 0), (11, 0), (12, 0), (13, 0), (14, 0), (15, 0), (16, 0), (17, 0), (18, 0), (19, 0), (20, 0), (21, 0), (22, 0), (23, 0), (24, 0), (25, 0), (26, 1), (27, 0), (28, 0)] mixed (by kernel_rfl) fun K hK => ?_ | refine QH (id := 5) [(0, 0), (1, 0), (2, 0), (3, 0), (4, 0), (5, 0), (6, 0), (7, 0), (8, 0), (9, 0), (10, 0), (11, 0), (12, 0), (13, 0), (14, 0), (15, 0), (16, 0), (17, 0), (18, 0), (19, 0), (20, 0), (21, 0), (22, 0), (23, 0), (24, 0), (25, 0), (26, 1), (27, 0), (28, 0)] mixed (by kernel_rfl) fun K hK => ?_
     (try simp only [QqB, QqJ]); refine Xb 8 (fun K1 hK1 => ?_); simp -implicitDefEqProofs only [Qg, Qh, aop, AS.ev, ↓reduceIte, Qp, QC, QD, aBin, ti3, Zp, QR, k1, k2, seval]; refine hK1 _ ?_; clear hK1
     (try simp only [QqB, QqJ]); refine Xb 8 (fun K1 hK1 => ?_); simp -implicitDefEqProofs only [Qg, Qh, aop, AS.ev, ↓reduceIte, Qz, aBin, ei23, t0, QS, hjz, hw1, hlt1, seval]; refine hK1 _ ?_; clear hK1
     (try simp only [QqB, QqJ]); refine Xb 8 (fun K1 hK1 => ?_); simp -implicitDefEqProofs only [Qg, Qh, aop, AS.ev, ↓reduceIte, Qp, QC, QD, aBin, ti3, Zp, QR, XG hlt1, k3, seval]; refine hK1 _ ?_; clear hK1
     (try simp only [QqB, QqJ])
     simp -implicitDefEqProofs only [Qg, Qh, aop, undef, AS.ev, ↓reduceIte, seval]
     repeat (first | (((with_reducible refine Qa fun K E hK hE => ?_)); simp -implicitDefEqProofs only [XI, XT, Qh, OpW, aop, AS.ev, XH, Qar, Nat.reduceLT]) | (with_reducible (first | refine Qj ?_ | refine Qb ?_ | refine Qo ?_ | refine Qs ?_)) | ((with_reducible refine hK _ ?_); clear hK) | (refine Qf rfl ?_; simp only [↓reduceIte]))
     simp only [QE, Ql, Qr, upd, ↓reduceIte, Qqy, QqC]; first | refine Qd (htake _ _) (.keep (.v _)) ⟨by rw [rightS, e]; rfl, rfl⟩ | refine Qd List.take_length (.keep (.v _)) ⟨by rw [rightS, e]; rfl, rfl⟩
    have hup := hup0 (fun k hk => by have := hasc k (by omega) (j - 1) (by omega) (by omega) (by omega) hlt1; omega)
    have hasc' : ∀ k (hk : k < j + 1) (i : Nat) (hi : i < j + 1), k ≤ i → ∀ (h1 : k < b.length) (h2 : i < b.length), (b[k]).1 ≤ (b[i]).1 := fun k hk i hi hki h1 h2 => by
     by_cases q : i < j
     ·exact hasc k (by omega) i q hki h1 h2
     ·have e2 : i = j := by omega
      subst e2
      by_cases q2 : k = i
      ·subst q2; exact Int.le_refl _
      ·have := hasc k (by omega) (i - 1) (by omega) (by omega) h1 hlt1; omega
    cases hrt : b[j].2.runOk with
    | false =>
     rw [hrt] at c1
     have e : ascF none b = false := by rw [hr]; simp [ascF, hrt]
     repeat (first | (((with_reducible refine Qa fun K E hK hE => ?_)); simp -implicitDefEqProofs only [Qg, Qh, OpW, aop, undef, AS.ev, AV.QpF, ↓reduceIte, QC, QD, QL, QF, Qz, aBin, ei23, ti52, zi52, t15, t16, t17, hlt, QS, XG hlt, QR, Xm, seval]) | (with_reducible (first | refine Qc fun K hK => ?_ | refine Qi ?_ | refine Qk ?_ | refine Qb ?_)) | ((with_reducible refine hK _ ?_); clear hK) | (refine Qf rfl ?_; simp only [↓reduceIte]))
     first | refine Qt (id := 5) [(0, 0), (1, 0), (2, 0), (3, 0), (4, 0), (5, 0), (6, 0), (7, 0), (8, 0), (9, 0), (10, 0), (11, 0), (12, 0), (13, 0), (14, 0), (15, 0), (16, 0), (17, 0), (18, 0), (19, 0), (20, 0), (21, 0), (22, 0), (23, 0), (24, 0), (25, 0), (26, 1), (27, 0), (28, 0)] mixed (by kernel_rfl) fun K hK => ?_ | refine QH (id := 5) [(0, 0), (1, 0), (2, 0), (3, 0), (4, 0), (5, 0), (6, 0), (7, 0), (8, 0), (9, 0), (10, 0), (11, 0), (12, 0), (13, 0), (14, 0), (15, 0), (16, 0), (17, 0), (18, 0), (19, 0), (20, 0), (21, 0), (22, 0), (23, 0), (24, 0), (25, 0), (26, 1), (27, 0), (28, 0)] mixed (by kernel_rfl) fun K hK => ?_
     (try simp only [QqB, QqJ]); refine Xb 8 (fun K1 hK1 => ?_); simp -implicitDefEqProofs only [Qg, Qh, aop, AS.ev, ↓reduceIte, Qp, QC, QD, aBin, ti3, Zp, QR, k1, k2, seval]; refine hK1 _ ?_; clear hK1
     (try simp only [QqB, QqJ]); refine Xb 8 (fun K1 hK1 => ?_); simp -implicitDefEqProofs only [Qg, Qh, aop, AS.ev, ↓reduceIte, Qz, aBin, ei23, t0, QS, hjz, hw1, hlt1, seval]; refine hK1 _ ?_; clear hK1
     (try simp only [QqB, QqJ]); refine Xb 8 (fun K1 hK1 => ?_); simp -implicitDefEqProofs only [Qg, Qh, aop, AS.ev, ↓reduceIte, Qp, QC, QD, aBin, ti3, Zp, QR, XG hlt1, k3, seval]; refine hK1 _ ?_; clear hK1
     (try simp only [QqB, QqJ])
     simp -implicitDefEqProofs only [Qg, Qh, aop, AS.ev, ↓reduceIte, Qp, QC, QD, ti41, Qci, QR, Xm, seval]
     repeat (first | ((first | (with_reducible (first | refine Qa fun K E hK hE => ?_ | refine Qu c1 ?_))); simp -implicitDefEqProofs only [Qg, Qh, OpW, aop, AS.ev, ↓reduceIte, seval]) | (with_reducible (first | refine Qj ?_ | refine Qb ?_ | refine Qo ?_ | refine Qs ?_)) | ((with_reducible refine hK _ ?_); clear hK) | (refine Qf rfl ?_; simp only [↓reduceIte]))
     simp only [QE, Ql, Qr, upd, ↓reduceIte, Qqy, QqC]; first | refine Qd (htake _ _) (.keep (.v _)) ⟨by rw [rightS, e]; rfl, rfl⟩ | refine Qd List.take_length (.keep (.v _)) ⟨by rw [rightS, e]; rfl, rfl⟩
    | true =>
     rw [hrt] at c1
     repeat (first | (((with_reducible refine Qa fun K E hK hE => ?_)); simp -implicitDefEqProofs only [Qg, Qh, OpW, aop, undef, AS.ev, AV.QpF, ↓reduceIte, QC, QD, QL, QF, Qz, aBin, ei23, ti52, zi52, t15, t16, t17, hlt, QS, XG hlt, QR, Xm, seval]) | (with_reducible (first | refine Qc fun K hK => ?_ | refine Qi ?_ | refine Qk ?_ | refine Qb ?_)) | ((with_reducible refine hK _ ?_); clear hK) | (refine Qf rfl ?_; simp only [↓reduceIte]))
     first | refine Qt (id := 5) [(0, 0), (1, 0), (2, 0), (3, 0), (4, 0), (5, 0), (6, 0), (7, 0), (8, 0), (9, 0), (10, 0), (11, 0), (12, 0), (13, 0), (14, 0), (15, 0), (16, 0), (17, 0), (18, 0), (19, 0), (20, 0), (21, 0), (22, 0), (23, 0), (24, 0), (25, 0), (26, 1), (27, 0), (28, 0)] mixed (by kernel_rfl) fun K hK => ?_ | refine QH (id := 5) [(0, 0), (1, 0), (2, 0), (3, 0), (4, 0), (5, 0), (6, 0), (7, 0), (8, 0), (9, 0), (10, 0), (11, 0), (12, 0), (13, 0), (14, 0), (15, 0), (16, 0), (17, 0), (18, 0), (19, 0), (20, 0), (21, 0), (22, 0), (23, 0), (24, 0), (25, 0), (26, 1), (27, 0), (28, 0)] mixed (by kernel_rfl) fun K hK => ?_
     (try simp only [QqB, QqJ]); refine Xb 8 (fun K1 hK1 => ?_); simp -implicitDefEqProofs only [Qg, Qh, aop, AS.ev, ↓reduceIte, Qp, QC, QD, aBin, ti3, Zp, QR, k1, k2, seval]; refine hK1 _ ?_; clear hK1
     (try simp only [QqB, QqJ]); refine Xb 8 (fun K1 hK1 => ?_); simp -implicitDefEqProofs only [Qg, Qh, aop, AS.ev, ↓reduceIte, Qz, aBin, ei23, t0, QS, hjz, hw1, hlt1, seval]; refine hK1 _ ?_; clear hK1
     (try simp only [QqB, QqJ]); refine Xb 8 (fun K1 hK1 => ?_); simp -implicitDefEqProofs only [Qg, Qh, aop, AS.ev, ↓reduceIte, Qp, QC, QD, aBin, ti3, Zp, QR, XG hlt1, k3, seval]; refine hK1 _ ?_; clear hK1
     (try simp only [QqB, QqJ])
     simp -implicitDefEqProofs only [Qg, Qh, aop, AS.ev, ↓reduceIte, Qp, QC, QD, ti41, Qci, QR, Xm, seval]
     repeat (first | ((first | (with_reducible (first | refine Qm fun K E hK hE => ?_ | refine Qu c1 ?_))); simp -implicitDefEqProofs only [Qg, Qh, OpW, aop, undef, AS.ev, AV.QpF, ↓reduceIte, Qp, QC, QD, aBin, Xy, XR, X7, ti3, Zp, QmI, Qmm, QoE, t3, t17, QR, hup, seval]) | (with_reducible (first | refine Qk ?_ | refine Qb ?_ | refine Qn ?_)) | ((with_reducible refine hK _ ?_); clear hK) | (refine Qf rfl ?_; simp only [↓reduceIte, Qqw]))
     refine Q1.mk (m' := b.length - (j + 1)) (by omega) ?_
     rw [hI]
     refine ⟨j + 1, L ++ [.cells 52 5 [bav b[j]]], rfl, hlt, ?_, hasc', t0, t3, t15, t16, ?_, ?_⟩
     ·rw [hr, hpv]
      simp [ascF, k1, k2, hrt, k3]
     ·simp only [upd, ↓reduceIte]
      rw [QP (by omega)]
     ·rw [QgY hlt]; simp
  ·have hjl : j = b.length := by omega
   have e : ascF none b = true := by rw [hr, hjl, List.drop_length]; rfl
   rw [hjl, List.take_length]
   repeat (first | (((with_reducible refine Qa fun K E hK hE => ?_)); simp -implicitDefEqProofs only [Qg, Qh, OpW, aop, AS.ev, ↓reduceIte, aBin, aLen, goInt, un23, t0, t16, t17, hlt, QS, seval]) | (with_reducible (first | refine Qc fun K hK => ?_ | refine Qi ?_ | refine QB ?_ | refine Qb ?_ | refine Qw ?_ | refine Qv ?_)) | ((with_reducible refine hK _ ?_); clear hK) | (clear hK; (with_reducible refine hK _ ?_); clear hK) | (refine Qf rfl ?_; simp only [↓reduceIte, Qqw]))
   obtain ⟨I, hI⟩ : ∃ I : Nat → AS → Prop, I = fun m' s => ∃ (j : Nat) (L : AH), m' = b.length - j ∧ j ≤ b.length ∧ Qck b b = Qck b (b.drop j) ∧ s.tm 3 = .mp h.length ∧ s.tm 56 = .sl 5 (bavs b) none ∧ s.tm 57 = .i b.length ∧ s.tm 58 = .i j ∧ s.h = h ++ ([.map (imap (bmap b))] ++ L) := ⟨_, rfl⟩; refine QJ I ?_ (m := b.length) ?_
   ·have hO := hI
    intro m' s hs; rw [hI] at hs; obtain ⟨tm, hp⟩ := s; dsimp only at hs; obtain ⟨j, L, rfl, hj, hr2, t3, t56, t57, t58, rfl⟩ := hs
    by_cases hlt : j < b.length
    ·rw [List.drop_eq_getElem_cons hlt] at hr2
     have hbj := ho b[j] (List.getElem_mem hlt)
     have hnn : b[j].2.nds ≤ 1000000 := hn b[j] (List.getElem_mem hlt)
     have c2 := Qg6 b[j].2 hnn hbj.2
     rw [T.Qp0] at c2
     have hvl : (Yo b[j].2).length ≤ 1000000 := Qce _ hnn
     change Pure _ _ _ (.sl 1 (ints (Yo b[j].2)) none) at c2
     repeat (first | ((first | (with_reducible (first | refine Qa fun K E hK hE => ?_ | refine Qq c2 ?_))); simp -implicitDefEqProofs only [Qg, Qh, OpW, QI, aop, undef, AS.ev, AV.QpF, ↓reduceIte, Qp, QC, QD, QL, QF, Qz, aBin, aLen, goInt, ei23, ti41, un49, ti52, Qci, zi52, t56, t57, t58, hlt, QS, XG hlt, QR, Xm, seval]) | (with_reducible (first | refine Qc fun K hK => ?_ | refine Qi ?_ | refine Qk ?_ | refine Qb ?_)) | ((with_reducible refine hK _ ?_); clear hK) | (refine Qf rfl ?_; simp only [↓reduceIte]))
     obtain ⟨I, hI⟩ : ∃ I : Nat → AS → Prop, I = fun m' s => ∃ (k : Nat) (M : AH), m' = (Yo b[j].2).length - k ∧ k ≤ (Yo b[j].2).length ∧ ((Yo b[j].2).all fun v => !bound b v) = (((Yo b[j].2).drop k).all fun v => !bound b v) ∧ s.tm 3 = .mp h.length ∧ s.tm 56 = .sl 5 (bavs b) none ∧ s.tm 57 = .i b.length ∧ s.tm 58 = .i j ∧ s.tm 64 = .sl 1 (ints (Yo b[j].2)) none ∧ s.tm 65 = .i (Yo b[j].2).length ∧ s.tm 66 = .i k ∧ s.h = h ++ ([.map (imap (bmap b))] ++ M) := ⟨_, rfl⟩; refine QJ I ?_ (m := (Yo b[j].2).length) ?_
     ·intro m' s hs; rw [hI] at hs; obtain ⟨tm, hp⟩ := s; dsimp only at hs; obtain ⟨k, M, rfl, hk, hr3, t3, t56, t57, t58, t64, t65, t66, rfl⟩ := hs
      by_cases hkl : k < (Yo b[j].2).length
      ·rw [List.drop_eq_getElem_cons hkl, List.all_cons] at hr3
       cases hbv : bound b (Yo b[j].2)[k] with
       | true =>
        have hf : QbS (.int .i64) (.int .i64 (Yo b[j].2)[k]) (imap (bmap b)) = some (some (.agg [])) := by rw [Ze, QeZ, if_pos hbv]
        have e2 : Qck b b = false := by
         rw [hr2, Qck, List.all_cons]
         rw [hr3, hbv]; rfl
        repeat (first | (((with_reducible refine Qa fun K E hK hE => ?_)); simp -implicitDefEqProofs only [Qg, Qh, OpW, aop, undef, AS.ev, AV.QpF, ↓reduceIte, QC, QD, QL, QF, Qz, aBin, Xd, Yb, ti3, ei49, QmI, QoR, Qmm, t3, t64, t65, t66, hkl, YA hkl, hf, seval]) | (with_reducible (first | refine Qc fun K hK => ?_ | refine Qi ?_ | refine Qj ?_ | refine Qk ?_ | refine Qb ?_ | refine Qo ?_ | refine Qs ?_)) | ((with_reducible refine hK _ ?_); clear hK) | (refine Qf rfl ?_; simp only [↓reduceIte]))
        simp only [QE, Ql, Qr, upd, ↓reduceIte, Qqy, QqC]; first | refine Qd (htake _ _) (.keep (.v _)) ⟨by rw [rightS, e2, Bool.and_false], rfl⟩ | refine Qd List.take_length (.keep (.v _)) ⟨by rw [rightS, e2, Bool.and_false], rfl⟩
       | false =>
        have hf : QbS (.int .i64) (.int .i64 (Yo b[j].2)[k]) (imap (bmap b)) = some none := by rw [Ze, QeZ, if_neg (by rw [hbv]; decide)]
        repeat (first | ((first | (with_reducible (first | refine Qa fun K E hK hE => ?_ | refine Qm fun K E hK hE => ?_))); simp -implicitDefEqProofs only [Qg, Qh, OpW, aop, undef, AS.ev, AV.QpF, ↓reduceIte, QC, QD, QL, QF, Qz, aBin, Xd, Yb, ti3, ei49, QmI, QoR, Qmm, t3, t64, t65, t66, hkl, YA hkl, hf, seval]) | (with_reducible (first | refine Qc fun K hK => ?_ | refine Qi ?_ | refine Qk ?_ | refine Qb ?_ | refine Qn ?_)) | ((with_reducible refine hK _ ?_); clear hK) | (refine Qf rfl ?_; simp only [↓reduceIte, Qqw]))
        refine Q1.mk (m' := (Yo b[j].2).length - (k + 1)) (by omega) ?_
        rw [hI]
        refine ⟨k + 1, _, rfl, hkl, ?_, t3, t56, t57, t58, t64, t65, ?_, rfl⟩
        ·rw [hr3, hbv]; rfl
        ·simp only [upd, ↓reduceIte]
         rw [QP (by omega)]
      ·have hke : k = (Yo b[j].2).length := by omega
       rw [hke, List.drop_length] at hr3
       repeat (first | ((first | (with_reducible (first | refine Qa fun K E hK hE => ?_ | refine Qm fun K E hK hE => ?_))); simp -implicitDefEqProofs only [Qg, Qh, OpW, aop, AS.ev, ↓reduceIte, aBin, t58, t65, t66, hkl, seval]) | (with_reducible (first | refine Qc fun K hK => ?_ | refine QB ?_ | refine Qb ?_ | refine Qw ?_ | refine Qn ?_ | refine Qv ?_)) | ((with_reducible refine hK _ ?_); clear hK) | (clear hK; (with_reducible refine hK _ ?_); clear hK) | (refine Qf rfl ?_; simp only [↓reduceIte, Qqw]))
       refine Q1.mk (m' := b.length - (j + 1)) (by omega) ?_
       rw [hO]
       refine ⟨j + 1, M, rfl, hlt, ?_, t3, t56, t57, ?_, rfl⟩
       ·rw [hr2, Qck, List.all_cons, hr3]; rfl
       ·simp only [upd, ↓reduceIte]
        rw [QP (by omega)]
     ·rw [hI]
      exact ⟨0, _, by omega, Nat.zero_le _, rfl, t3, t56, t57, t58, rfl, by simp only [upd, ↓reduceIte, Nat.reduceEqDiff], rfl, rfl⟩
    ·have hjl : j = b.length := by omega
     rw [hjl, List.drop_length] at hr2
     repeat (first | (((with_reducible refine Qa fun K E hK hE => ?_)); simp -implicitDefEqProofs only [Qg, Qh, OpW, aop, AS.ev, Nat.reduceLT, aBin, t57, t58, hlt]) | (with_reducible (first | refine Qc fun K hK => ?_ | refine Qj ?_ | refine QB ?_ | refine Qb ?_ | refine Qw ?_ | refine Qv ?_)) | ((with_reducible refine hK _ ?_); clear hK) | (clear hK; (with_reducible refine hK _ ?_); clear hK) | (refine Qf rfl ?_; simp only [↓reduceIte, Qqw]))
     simp only [QE, Ql, Qr, upd, ↓reduceIte, Qqy, QqC]; first | refine Qd (htake _ _) (.keep (.v _)) ⟨by rw [rightS, e, hr2]; rfl, rfl⟩ | refine Qd List.take_length (.keep (.v _)) ⟨by rw [rightS, e, hr2]; rfl, rfl⟩
   ·rw [hI]
    exact ⟨0, L, by omega, Nat.zero_le _, rfl, t3, rfl, by simp only [upd, ↓reduceIte, Nat.reduceEqDiff], rfl, rfl⟩
 ·rw [hI]
  exact ⟨0, [], by omega, Nat.zero_le _, rfl, fun k hk => by omega, rfl, rfl, rfl, rfl, rfl, by simp [bmap, imap]⟩
end Go.Proofs.YtniljpjjnmkoaaaGreatDoor.Ab
namespace Go.Proofs.YtniljpjjnmkoaaaGreatDoor.Ab
theorem QlO {P : Program} {f : FuncId} {fn : Func} (hf : P.funcs[f]? = some fn) (hname : (fn.name == "runtime.NumGoroutine") = false) (hbn : fn.body.isNone = true) (hn : Extern.findNext fn = none)
  (he : Extern.find fn = some Extern.AbiNoEscape.same) {y : AV} {h : AH} : FunW P (.fn (.func f) [] []) [y] h fun o h' => o = .ret y ∧ h' = h := by
 intro F n c v vals hF hst hh hv hvs o a next Qx h1 h2
 subst hh
 cases hv with
 | fn _ _ _ vs ws e1 e2 hv1 hv2 =>
  have hvs0 : vs = #[] := Array.eq_empty_of_size_eq_zero e1
  have hws0 : ws = #[] := Array.eq_empty_of_size_eq_zero e2
  subst hvs0; subst hws0
  obtain ⟨x, hx⟩ := Y2 hvs.1 (show 0 < [y].length by simp)
  have hvals : vals = #[x] := by
   apply Array.ext'
   have hl : vals.toList.length = 1 := by simpa using hvs.1
   apply List.ext_getElem?
   intro j
   match j with
   | 0 => simpa using hx
   | j + 1 => rw [List.getElem?_eq_none (by omega)]; simp
  have hrx := hvs.2 0 _ x rfl hx
  subst hvals
  have hcall := run_callFunc_extern (P := P) hf hname hbn hn he #[x] c.w
  rw [show (Extern.AbiNoEscape.same #[x]).run P c.w = .ok x c.w from rfl] at hcall
  simp only [Deferred.ofValue, Sem.run_bind, Sem.run_pure, Result.andThen_ok, invoke, Array.empty_append, Array.append_empty, hcall]
  exact h1 _ c _ ⟨rfl, rfl⟩ (Ev.refl c) hst hrx
theorem Y9 (s t : ByteArray) : QX (s ++ t) = QX s ++ QX t := by
 simp only [QX, ByteArray.data_append, Array.toList_append, List.map_append]
theorem QcU (s : ByteArray) : Zv (QX s) = some s.data.toList := by rw [QjU, Qbt]
theorem QG (s t : ByteArray) : (s ++ t).size = s.size + t.size := ByteArray.size_append
theorem QjB {s : ByteArray} (h : 0 < s.size) : ∃ y ys, QX s = y :: ys := by
 cases hs : QX s with
 | nil => have := Xu s; rw [hs] at this; simp at this; omega
 | cons y ys => exact ⟨y, ys, rfl⟩
theorem Qie {P : Program} {t t' e : TypeId} {i : TypeInfo} {z : Value} (ht : P.underlying t = some (.slice e)) (ht' : P.underlying t' = some .string) (hi : P.info? e = some i) (hz : i.zero = some z) (h1 : i.size = 1) (h2 : i.bytes = 1) (h3 : z.cells.size = 1)
  {T s : ByteArray} {j : Nat} {h : AH} (hj : h[j]? = some (.grow e 1 T.size)) (hs : T.size + s.size ≤ 140737488355328) :
  QaG P t t' (.sl 1 (QX T) (some j)) s h = some (.sl 1 (QX (T ++ s)) (some j), h.set j (.grow e 1 (T ++ s).size)) := by
 unfold QaG
 simp only [ht, ht', hi, hz, h1, h2, h3, Qq0, if_true, hj, Xu, QG, Y9]
 by_cases h0 : 0 < s.size
 ·rw [if_pos (by simp only [h0, hs, Qq0])]
 ·have h0' : s.size = 0 := by omega
  rw [if_neg (fun e => h0 e.1), if_pos (by simp only [h0', Qq0])]
  have hn : QX s = [] := by
   have := Xu s
   rw [h0'] at this
   exact List.length_eq_zero_iff.1 this
  rw [hn, List.append_nil, h0', Nat.add_zero]
  congr 2
  apply List.ext_getElem?
  intro k
  rw [List.getElem?_set]
  split
  ·rename_i hk; subst hk; rw [hj]; simp [QA hj]
  ·rfl
theorem QcD {P : Program} {pt e : TypeId} (ht : P.underlying pt = some (.pointer e)) (he : P.cellsOf e = 1) {T : ByteArray} {j : Nat} {h : AH} (hj : h[j]? = some (.grow e 1 T.size)) (h0 : 0 < T.size) (hs : T.size ≤ 9223372036854775807) :
  Yn P pt (.spt 1 (QX T) (some j)) (.v (.int .i64 (T.size : Nat))) h = some (.v (.string T), h.set j .gone) := by
 unfold Yn
 simp only [hj, QcU, ht, Xu]
 rw [if_pos (by simp only [h0, he, hs, Qq0])]
theorem QcB {T : ByteArray} (h0 : 0 < T.size) (j : Nat) : Qas (.sl 1 (QX T) (some j)) = some (.spt 1 (QX T) (some j)) := by
 obtain ⟨y, ys, e⟩ := QjB h0
 rw [e]; rfl
def bw (ty i j : Nat) (u : Bool) (T : ByteArray) : AB := .cells ty 2 [.agg [if u then .ptr i 0 0 else .v (.pointer none), .sl 1 (QX T) (some j)]]
theorem bw0 (ty i j : Nat) (T : ByteArray) : bw ty i j false T = .cells ty 2 [.agg [.v (.pointer none), .sl 1 (QX T) (some j)]] := rfl
theorem bw1 (ty i j : Nat) (T : ByteArray) : bw ty i j true T = .cells ty 2 [.agg [.ptr i 0 0, .sl 1 (QX T) (some j)]] := rfl
theorem Qnr {ty i j n : Nat} {u : Bool} {T : ByteArray} (hi : i < n) (hj : j < n) : (bw ty i j u T).Below n := by
 have hsl : Ab.Below n (.sl 1 (QX T) (some j)) := by
  refine .sl _ _ _ (fun y hy => ?_) fun b hb => by cases hb; exact hj
  rw [Qai] at hy
  obtain ⟨b, _, rfl⟩ := List.mem_map.1 hy
  exact .v _
 cases u
 ·intro x hx
  have hx' : x ∈ [.v (.pointer none), .sl 1 (QX T) (some j)] := hx
  simp only [List.mem_cons, List.not_mem_nil, or_false] at hx'
  rcases hx' with rfl | rfl
  ·exact .v _
  ·exact hsl
 ·intro x hx
  have hx' : x ∈ [.ptr i 0 0, .sl 1 (QX T) (some j)] := hx
  simp only [List.mem_cons, List.not_mem_nil, or_false] at hx'
  rcases hx' with rfl | rfl
  ·exact .ptr _ _ _ hi
  ·exact hsl
def Wr (P : Program) (e ty : TypeId) (f : FuncId) (args : List AV) (i j : Nat) (u : Bool) (T : ByteArray) (r : AV) (u' : Bool) (T' : ByteArray) : Prop :=
 Chg2 P f args i (bw ty i j u T) j (.grow e 1 T.size) r (bw ty i j u' T') (.grow e 1 T'.size)
end Go.Proofs.YtniljpjjnmkoaaaGreatDoor.Ab
namespace Go.Proofs.YtniljpjjnmkoaaaGreatDoor.Ab
theorem QnK {c : Cx} (hs : St c) {s : Nat} {k : AB} (hk : k = .dead ∨ ∃ e, k = .grow e s 0) : Ev c (c.add c.w k none) ∧ St (c.add c.w k none) := by
 have hg := Grows.refl c.w
 have ho : ∀ B, (none : Option Nat) = some B → c.w.heap.size ≤ B := fun B h => by cases h
 have hρ : (c.add c.w k none).ρ c.h.length = none := by simp [Cx.add]
 refine ⟨Ev.add hs hg k none ho, St.add hs hg _ _ ho ?_⟩
 rcases hk with rfl | ⟨e, rfl⟩
 ·trivial
 ·exact fun B hB => by rw [hρ] at hB; cases hB
theorem QnH {c : Cx} (hst : St c) {id ty n s : Nat} {k : AB} (hk : k = .dead ∨ ∃ e, k = .grow e s 0) {xs xs' : List AV} {j : Nat} (hb : c.h[id]? = some (.cells ty n xs)) (hj : (flat xs)[j]? = some (.v (.slice none 0 0)))
  (hf : flat xs' = (flat xs).set j (.sl s [] (some c.h.length))) (hc : ∀ x ∈ xs', x.cells.length = n) :
  ∃ c2, Ev c c2 ∧ St c2 ∧ c2.h = (c.h ++ [k]).set id (AB.cells ty n xs') ∧ c2.w = c.w := by
 obtain ⟨hev, hst1⟩ := QnK hst hk
 have hlt := QA hb
 have hb1 : (c.add c.w k none).h[id]? = some (.cells ty n xs) := by
  simp only [Cx.add]; rw [List.getElem?_append_left hlt]; exact hb
 obtain ⟨B, cur, hρ, hcur, h3, h4⟩ := hst1.blocks id _ hb1
 have hev2 := Ev.turn (b' := .cells ty n xs') hst1 hb1 rfl hρ (w := c.w) rfl rfl rfl rfl (fun _ _ => rfl) (.inr ⟨_, rfl, rfl, fun _ cur _ h => ⟨cur, h, rfl⟩⟩)
 have htok : ((c.add c.w k none).turn c.w id (.cells ty n xs')).tokNil c.h.length s := by
  refine ⟨by simp [Cx.turn, Cx.add], fun e2 s2 n2 hg2 => ?_⟩
  simp only [Cx.turn, Cx.add] at hg2
  rw [List.getElem?_set_ne (by omega), List.getElem?_append_right (Nat.le_refl _), Nat.sub_self] at hg2
  rcases hk with rfl | ⟨e, rfl⟩
  ·simp at hg2
  ·simp at hg2
   exact ⟨hg2.2.1.symm, fun _ => by simp [Cx.turn, Cx.add]⟩
 have hst2 := St.turn (b' := .cells ty n xs') hst1 hb1 rfl hρ (w := c.w) (fun _ _ => rfl) hev2 ⟨B, cur, hρ, hcur, hc, by
  intro i a' hi
  rw [hf] at hi
  by_cases e : j = i
  ·subst e
   rw [List.getElem?_set_self (QA hj)] at hi
   cases hi
   obtain ⟨u, g1, g2, g3⟩ := h4 j _ hj
   cases g3
   exact ⟨_, g1, g2, .slnil _ _ fun b hb => by cases hb; exact htok⟩
  ·rw [List.getElem?_set_ne e] at hi
   obtain ⟨u, g1, g2, g3⟩ := h4 i _ hi
   exact ⟨u, g1, g2, g3.ev hst1 hev2⟩⟩
 exact ⟨_, Ev.trans hst hev hev2, hst2, rfl, rfl⟩
theorem ZG {P : Program} {N : Nat} {code : Code} {Q : AExit → AS → Prop} {tm : Nat → AV} {h : AH} (id ty n s : Nat) (k : AB) (hk : k = .dead ∨ ∃ e, k = .grow e s 0) (xs xs' : List AV) (j : Nat) (hb : h[id]? = some (.cells ty n xs))
  (hj : (flat xs)[j]? = some (.v (.slice none 0 0))) (hf : flat xs' = (flat xs).set j (.sl s [] (some h.length))) (hc : ∀ x ∈ xs', x.cells.length = n)
  (H : XC P N code Q ⟨tm, (h ++ [k]).set id (AB.cells ty n xs')⟩) : XC P N code Q ⟨tm, h⟩ := by
 intro F m base c a hF hst hr R hR
 have hh : c.h = h := hr.h
 subst hh
 obtain ⟨c2, hev, hst2, hh2, hw⟩ := QnH hst hk hb hj hf hc
 rw [← hw]
 exact H F m base c2 a hF hst2 ⟨hh2, hr.size, Nat.le_trans hr.above hev.size, hr.defers.ev hev, RoundOk.ev hev hr.round, fun t => (hr.tm t).ev hst hev⟩ R fun e' s' c' a' ex hq h1 h2 h3 h4 => hR e' s' c' a' ex hq (Ev.trans hst hev h1) h2 h3 h4
end Go.Proofs.YtniljpjjnmkoaaaGreatDoor.Ab
set_option maxRecDepth 4000
namespace Go.Proofs.YtniljpjjnmkoaaaGreatDoor.Ab
open Go.Proofs
def fidx (p : Int → Bool) : List Int → Option Nat
 | [] => none
 | a :: l => if p a = true then some 0 else (fidx p l).map (· + 1)
def Qh7 (p : Int → Bool) (l : List Int) : Int := match fidx p l with | some i => i | none => -1
theorem QgK {p : Int → Bool} : ∀ {l : List Int}, fidx p l = none → l.filter (fun v => !p v) = l
 | [], _ => rfl
 | a :: l, h => by
  simp only [fidx] at h
  cases ha : p a with
  | true => simp [ha] at h
  | false =>
   simp only [ha, Qqw, ↓reduceIte, Option.map_eq_none_iff] at h
   rw [List.filter_cons_of_pos (by rw [ha]; rfl), QgK h]
theorem Qgc {p : Int → Bool} : ∀ {l : List Int} {i : Nat}, fidx p l = some i → i < l.length ∧ (l.take (i + 1)).filter (fun v => !p v) = l.take i
 | [], i, h => by simp [fidx] at h
 | a :: l, i, h => by
  simp only [fidx] at h
  cases ha : p a with
  | true =>
   simp only [ha, ↓reduceIte, Qqy] at h
   subst h
   exact ⟨by simp, by simp [ha]⟩
  | false =>
   simp only [ha, Qqw, ↓reduceIte, Option.map_eq_some_iff] at h
   obtain ⟨k, hk, rfl⟩ := h
   obtain ⟨h1, h2⟩ := Qgc hk
   refine ⟨by simp only [QqF]; omega, ?_⟩
   rw [List.take_succ_cons, List.filter_cons_of_pos (by rw [ha]; rfl), h2, List.take_succ_cons]
theorem QlH (p : Int → Bool) (l : List Int) (hb : l.length ≤ 1000000) (fv : AV) (h : AH) (id : Nat) (hid : id < h.length)
  (hv : ∀ v : Int, FunW Tryz.prog fv [.i v] (hs h id (.cells 3 1 (ints l))) fun o h' => o = .ret (.b (p v)) ∧ h' = hs h id (.cells 3 1 (ints l))) :
  Q4 Tryz.prog 120 [.arr id 0 l.length, fv] (hs h id (.cells 3 1 (ints l))) fun o h' => o = .ret (.i (Qh7 p l)) ∧ h' = hs h id (.cells 3 1 (ints l)) := by
 have hv' : ∀ (v : Int) (C : AOut → AH → Prop), C (.ret (.b (p v))) (hs h id (.cells 3 1 (ints l))) → FunW Tryz.prog fv [.i v] (hs h id (.cells 3 1 (ints l))) C := fun v C k => (hv v).mono (by rintro _ _ ⟨rfl, rfl⟩; exact k)
 have g1 := fun x => Qdn hid x
 refine Qe Tryz.func120 rfl Tryz.call120 Tryz.ntmps120 (congrArg Array.toList Tryz.results120) (by simp) ?_
 repeat (first | (((with_reducible refine Qa fun K E hK hE => ?_)); simp -implicitDefEqProofs only [Qg, Qh, OpW, aop, undef, AS.ev, Qy, ↓reduceIte, aLen, goInt, un49, g1, seval]) | (with_reducible (first | refine Qc fun K hK => ?_ | refine Qi ?_)) | ((with_reducible refine hK _ ?_); clear hK))
 obtain ⟨I, hI⟩ : ∃ I : Nat → AS → Prop, I = fun m' s => ∃ j : Nat, m' = l.length - j ∧ j ≤ l.length ∧ fidx p l = (fidx p (l.drop j)).map (· + j) ∧ s.tm 0 = .arr id 0 l.length ∧ s.tm 1 = fv ∧ s.tm 7 = .i l.length ∧ s.tm 8 = .i j ∧ s.h = hs h id (.cells 3 1 (ints l)) := ⟨_, rfl⟩; refine QJ I ?_ (m := l.length) ?_
 ·intro m' s hs; rw [hI] at hs; obtain ⟨tm, hp⟩ := s; dsimp only at hs; obtain ⟨j, rfl, hj, he, t0, t1, t7, t8, rfl⟩ := hs
  by_cases hlt : j < l.length
  ·rw [List.drop_eq_getElem_cons hlt] at he
   simp only [fidx] at he
   have hc := hv' l[j]
   cases hz : p l[j] with
   | true =>
    rw [if_pos hz] at he
    rw [hz] at hc
    repeat (first | ((first | (with_reducible (first | refine Qa fun K E hK hE => ?_ | refine hc _ ?_))); simp -implicitDefEqProofs only [Qg, Qh, OpW, QI, aop, AS.ev, ↓reduceIte, QC, QD, Qz, aBin, ti3, ei49, t0, t1, t7, t8, hlt, YA hlt, g1, seval]) | (with_reducible (first | refine Qc fun K hK => ?_ | refine Qi ?_ | refine Qj ?_ | refine Qk ?_ | refine Qb ?_ | refine Qo ?_ | refine Qs ?_)) | ((with_reducible refine hK _ ?_); clear hK) | (refine Qf rfl ?_; simp only [↓reduceIte]))
    simp only [QE, Ql, Qr, upd, ↓reduceIte, Qqy, QqC]
    refine .inr ⟨?_, rfl⟩
    simp [Qh7, he]
   | false =>
    rw [if_neg (by rw [hz]; decide)] at he
    rw [hz] at hc
    repeat (first | ((first | (with_reducible (first | refine Qa fun K E hK hE => ?_ | refine Qm fun K E hK hE => ?_ | refine hc _ ?_))); simp -implicitDefEqProofs only [Qg, Qh, OpW, QI, aop, AS.ev, ↓reduceIte, QC, QD, Qz, aBin, ti3, ei49, t0, t1, t7, t8, hlt, YA hlt, g1, seval]) | (with_reducible (first | refine Qc fun K hK => ?_ | refine Qi ?_ | refine Qk ?_ | refine Qb ?_ | refine Qn ?_)) | ((with_reducible refine hK _ ?_); clear hK) | (refine Qf rfl ?_; simp only [↓reduceIte, Qqw]))
    refine Q1.mk (m' := l.length - (j + 1)) (by omega) ?_
    rw [hI]
    refine ⟨j + 1, rfl, hlt, ?_, t0, t1, t7, ?_, rfl⟩
    ·rw [he, Option.map_map]
     congr 1
     funext x
     simp only [Function.comp]
     omega
    ·simp only [upd, ↓reduceIte]
     rw [QP (by omega)]
  ·have hjl : j = l.length := by omega
   rw [hjl, List.drop_length] at he
   simp only [fidx, Qq7] at he
   repeat (first | (((with_reducible refine Qa fun K E hK hE => ?_)); simp -implicitDefEqProofs only [Qg, Qh, OpW, aop, AS.ev, Nat.reduceLT, aBin, t7, t8, hlt]) | (with_reducible (first | refine Qc fun K hK => ?_ | refine Qj ?_ | refine QB ?_ | refine Qb ?_ | refine Qw ?_ | refine Qv ?_)) | ((with_reducible refine hK _ ?_); clear hK) | (clear hK; (with_reducible refine hK _ ?_); clear hK) | (refine Qf rfl ?_; simp only [↓reduceIte, Qqw]))
   simp only [QE, Ql, Qr, upd, ↓reduceIte, Qqy, QqC]
   exact .inr ⟨by simp [Qh7, he], rfl⟩
 ·rw [hI]
  exact ⟨0, by omega, Nat.zero_le _, by simp, rfl, rfl, rfl, rfl, rfl⟩
def zeros (n : Nat) : List AV := List.replicate n (.i 0)
theorem Qjm (F js : List Int) (id : Nat) (h : AH) (hg : h[id]? = some (.cells 3 1 (ints (F ++ js)))) :
  QeS Tryz.prog 49 (.arr id F.length js.length) h = some (.tup [], h.set id (.cells 3 1 (ints F ++ zeros js.length))) := by
 have hE : QW Tryz.prog 49 = some (3, 1) := by kernel_rfl
 have hz : ((Tryz.prog).info? 3).bind (·.zero) = some (.int .i64 0) := by kernel_rfl
 cases hi : (Tryz.prog).info? 3 with
 | none => rw [hi] at hz; cases hz
 | some i =>
  rw [hi] at hz
  replace hz : i.zero = some (.int .i64 0) := hz
  have hlen : F.length + js.length ≤ (ints (F ++ js)).length := by rw [Q0, List.length_append]; exact Nat.le_refl _
  have e1 : (ints (F ++ js)).take F.length = ints F := by rw [XF, ← Q0 F, List.take_left]
  have e2 : (ints (F ++ js)).drop (F.length + js.length) = [] := List.drop_eq_nil_of_le (by rw [Q0, List.length_append]; exact Nat.le_refl _)
  simp only [QeS, hE, hi, hz, hg]
  rw [if_pos ⟨trivial, trivial, rfl, hlen⟩, e1, e2, List.append_nil]
  rfl
theorem Qjz (p : Int → Bool) (l : List Int) (hb : l.length ≤ 1000000) (fv : AV) (h : AH) (id : Nat) (hid : id < h.length)
  (hv : ∀ (l : List Int) (v : Int), FunW Tryz.prog fv [.i v] (hs h id (.cells 3 1 (ints l))) fun o h' => o = .ret (.b (p v)) ∧ h' = hs h id (.cells 3 1 (ints l))) :
  Q4 Tryz.prog 76 [.arr id 0 l.length, fv] (hs h id (.cells 3 1 (ints l))) fun o h' =>
   o = .ret (.arr id 0 (l.filter fun v => !p v).length) ∧ ∃ k, h' = hs h id (.cells 3 1 (ints (l.filter fun v => !p v) ++ zeros k)) := by
 have hv' : ∀ (l : List Int) (v : Int) (C : AOut → AH → Prop), C (.ret (.b (p v))) (hs h id (.cells 3 1 (ints l))) → FunW Tryz.prog fv [.i v] (hs h id (.cells 3 1 (ints l))) C := fun l v C k => (hv l v).mono (by rintro _ _ ⟨rfl, rfl⟩; exact k)
 have g1 := fun x => Qdn hid x
 have g2 := fun x y => QgH hid x y
 have c1 := QlH p l hb fv h id hid (hv l)
 cases hf : fidx p l with
 | none =>
  have e : Qh7 p l = -1 := by simp [Qh7, hf]
  rw [e] at c1
  have en := QgK hf
  refine Qe Tryz.func76 rfl Tryz.call76 Tryz.ntmps76 (congrArg Array.toList Tryz.results76) (by simp) ?_
  repeat (first | ((first | (with_reducible (first | refine Qa fun K E hK hE => ?_ | refine FunW.ret (FunW.call c1) ?_))); simp -implicitDefEqProofs only [Qg, Qh, OpW, QI, aop, undef, AS.ev, Qy, ↓reduceIte, aBin, seval]) | (with_reducible (first | refine Qc fun K hK => ?_ | refine Qj ?_ | refine Qo ?_)) | ((with_reducible refine hK _ ?_); clear hK) | (refine Qf rfl ?_; simp only [↓reduceIte]))
  simp only [QE, Ql, Qr, upd, ↓reduceIte, Qqy, QqC]
  exact .inr ⟨by rw [en], 0, by rw [en]; simp [zeros]⟩
 | some i =>
  have e : Qh7 p l = (i : Int) := by simp [Qh7, hf]
  rw [e] at c1
  obtain ⟨hil, htk⟩ := Qgc hf
  have hne : ((i : Int) == -1) = false := by simp
  refine Qe Tryz.func76 rfl Tryz.call76 Tryz.ntmps76 (congrArg Array.toList Tryz.results76) (by simp) ?_
  repeat (first | ((first | (with_reducible (first | refine Qa fun K E hK hE => ?_ | refine FunW.ret (FunW.call c1) ?_))); simp -implicitDefEqProofs only [Qg, Qh, OpW, QI, aop, undef, AS.ev, Qy, ↓reduceIte, aBin, hne, seval]) | (with_reducible (first | refine Qc fun K hK => ?_ | refine Qi ?_ | refine Qk ?_ | refine Qb ?_)) | ((with_reducible refine hK _ ?_); clear hK) | (refine Qf rfl ?_; simp only [↓reduceIte, Qqw]))
  obtain ⟨I, hI⟩ : ∃ I : Nat → AS → Prop, I = fun m' s => ∃ (j : Nat) (js : List Int), m' = l.length - j ∧ j ≤ l.length ∧ ((l.take j).filter fun v => !p v).length + js.length = j ∧ js ≠ [] ∧ s.tm 0 = .arr id 0 l.length ∧ s.tm 1 = fv ∧ s.tm 5 = .i ((l.take j).filter fun v => !p v).length ∧ s.tm 6 = .i j ∧ s.h = hs h id (.cells 3 1 (ints (((l.take j).filter fun v => !p v) ++ js ++ l.drop j))) := ⟨_, rfl⟩; refine QJ I ?_ (m := l.length - (i + 1)) ?_
  ·intro m' s hs; rw [hI] at hs; obtain ⟨tm, hp⟩ := s; dsimp only at hs; obtain ⟨j, js, rfl, hj, hjs, hjn, t0, t1, t5, t6, rfl⟩ := hs
   have hln : (((l.take j).filter fun v => !p v) ++ js ++ l.drop j).length = l.length := by
    rw [List.length_append, List.length_append, hjs, List.length_drop]; omega
   by_cases hlt : j < l.length
   ·have hlt' : j < (((l.take j).filter fun v => !p v) ++ js ++ l.drop j).length := by omega
    have hge : (ints (((l.take j).filter fun v => !p v) ++ js ++ l.drop j))[j]? = some (.i l[j]) := by
     rw [YA hlt', List.getElem_append_right (by rw [List.length_append]; omega)]
     simp [hjs]
    have hts : (l.take (j + 1)) = l.take j ++ [l[j]] := List.take_succ_eq_append_getElem hlt
    have hds : l.drop j = l[j] :: l.drop (j + 1) := List.drop_eq_getElem_cons hlt
    have hc := hv' (((l.take j).filter fun v => !p v) ++ js ++ l.drop j) l[j]
    cases hz : p l[j] with
    | true =>
     rw [hz] at hc
     repeat (first | ((first | (with_reducible (first | refine Qa fun K E hK hE => ?_ | refine Qm fun K E hK hE => ?_ | refine hc _ ?_))); simp -implicitDefEqProofs only [Qg, Qh, OpW, QI, aop, AS.ev, ↓reduceIte, QC, QD, Qz, aBin, aLen, goInt, ti3, ei49, un49, t0, t1, t6, hlt, hge, g1, seval]) | (with_reducible (first | refine Qc fun K hK => ?_ | refine Qi ?_ | refine Qk ?_ | refine Qb ?_ | refine Qn ?_)) | ((with_reducible refine hK _ ?_); clear hK) | (refine Qf rfl ?_; simp only [↓reduceIte, Qqw]))
     refine Q1.mk (m' := l.length - (j + 1)) (by omega) ?_
     rw [hI]
     have ef : (l.take (j + 1)).filter (fun v => !p v) = (l.take j).filter fun v => !p v := by rw [hts, List.filter_append]; simp [hz]
     refine ⟨j + 1, js ++ [l[j]], rfl, hlt, by rw [ef, List.length_append, List.length_singleton]; omega, by simp, t0, t1, by rw [ef]; exact t5, ?_, ?_⟩
     ·simp only [upd, ↓reduceIte]
      rw [QP (by omega)]
     ·rw [ef, hds]; simp
    | false =>
     rw [hz] at hc
     obtain ⟨a, js', rfl⟩ : ∃ a js', js = a :: js' := by cases js with | nil => exact absurd rfl hjn | cons a js' => exact ⟨a, js', rfl⟩
     have hi2 : ((l.take j).filter fun v => !p v).length < l.length := by simp only [QqF] at hjs; omega
     have hst : (ints (((l.take j).filter fun v => !p v) ++ (a :: js') ++ l.drop j)).set ((l.take j).filter fun v => !p v).length (.i l[j]) = ints (((l.take j).filter fun v => !p v) ++ (l[j] :: js') ++ l.drop j) := by
      simp only [ints, List.map_append, QqH, List.append_assoc]
      rw [List.set_append_right _ _ (by rw [List.length_map]; exact Nat.le_refl _), List.length_map, Nat.sub_self]
      rfl
     have hgi : (ints (((l.take j).filter fun v => !p v) ++ (a :: js') ++ l.drop j))[((l.take j).filter fun v => !p v).length]? = some (.i a) := by
      simp only [ints, List.map_append, QqH, List.append_assoc]
      rw [List.getElem?_append_right (by rw [List.length_map]; exact Nat.le_refl _), List.length_map, Nat.sub_self]
      rfl
     repeat (first | ((first | (with_reducible (first | refine Qa fun K E hK hE => ?_ | refine Qm fun K E hK hE => ?_ | refine hc _ ?_))); simp -implicitDefEqProofs only [Qg, Qh, OpW, QI, aop, undef, AS.ev, AV.QpF, ↓reduceIte, QC, QD, QL, QF, Qz, aBin, aLen, goInt, ti3, ei49, un49, t0, t1, t5, t6, hlt, hge, hgi, hi2, g1, g2, hst, seval]) | (with_reducible (first | refine Qc fun K hK => ?_ | refine Qi ?_ | refine Qk ?_ | refine Qb ?_ | refine Qn ?_)) | ((with_reducible refine hK _ ?_); clear hK) | (refine Qf rfl ?_; simp only [↓reduceIte]))
     refine Q1.mk (m' := l.length - (j + 1)) (by omega) ?_
     rw [hI]
     have ef : (l.take (j + 1)).filter (fun v => !p v) = ((l.take j).filter fun v => !p v) ++ [l[j]] := by rw [hts, List.filter_append]; simp [hz]
     refine ⟨j + 1, js' ++ [l[j]], rfl, hlt, by rw [ef]; simp only [Qrj, QqF, QqG] at hjs ⊢; omega, by simp, t0, t1, ?_, ?_, ?_⟩
     ·simp only [upd, ↓reduceIte, Nat.reduceEqDiff]
      rw [ef, List.length_append, QP (by omega)]; rfl
     ·simp only [upd, ↓reduceIte]
      rw [QP (by omega)]
     ·rw [ef, hds]; simp
   ·have hjl : j = l.length := by omega
    subst hjl
    rw [List.take_length] at hjs t5 hln ⊢
    rw [List.drop_length, List.append_nil] at hln ⊢
    have hjp : 0 < js.length := List.length_pos_iff.2 hjn
    have hlt2 : (l.filter fun v => !p v).length < l.length := by omega
    have hle : (l.filter fun v => !p v).length ≤ l.length := by omega
    have hsub : ((l.length : Int) - ((l.filter fun v => !p v).length : Int)).toNat = js.length := by omega
    have hcl := Qjm (l.filter fun v => !p v) js id (hs h id (.cells 3 1 (ints ((l.filter fun v => !p v) ++ js)))) (g1 _)
    rw [g2] at hcl
    by_cases hF : (l.filter fun v => !p v).length = 0
    ·have hlp : 0 < l.length := by omega
     have hlpI : (0 : Int) < (l.length : Int) := by omega
     have hz1 : ¬ (0 : Int) < 0 := by decide
     have hjl : js.length = l.length := by omega
     rw [hF] at hcl t5
     rw [hjl] at hcl
     repeat (first | (((with_reducible refine Qa fun K E hK hE => ?_)); simp -implicitDefEqProofs only [Qg, Qh, OpW, aop, AS.ev, ↓reduceIte, aBin, Z7, Q7, aLen, goInt, ei49, un49, Qrf, Int.sub_zero, t0, t5, t6, hlt, g1, hlp, hlpI, hcl, hz1, seval]) | (with_reducible (first | refine Qc fun K hK => ?_ | refine Qj ?_ | refine QB ?_ | refine Qb ?_ | refine Qw ?_ | refine Qv ?_)) | ((with_reducible refine hK _ ?_); clear hK) | (clear hK; (with_reducible refine hK _ ?_); clear hK) | (refine Qf rfl ?_; simp only [↓reduceIte, Qqw]))
     simp only [QE, Ql, Qr, upd, ↓reduceIte, Qqy, QqC]
     exact .inr ⟨by rw [hF], l.length, rfl⟩
    ·have hFp : (0 : Int) < (((l.filter fun v => !p v).length : Nat) : Int) := by omega
     repeat (first | (((with_reducible refine Qa fun K E hK hE => ?_)); simp -implicitDefEqProofs only [Qg, Qh, OpW, aop, AS.ev, ↓reduceIte, aBin, Z7, Q7, aLen, goInt, ei49, un49, Qrf, Int.sub_zero, t0, t5, t6, hlt, g1, hlt2, hle, hsub, hcl, hFp, seval]) | (with_reducible (first | refine Qc fun K hK => ?_ | refine Qj ?_ | refine QB ?_ | refine Qb ?_ | refine Qw ?_ | refine Qv ?_)) | ((with_reducible refine hK _ ?_); clear hK) | (clear hK; (with_reducible refine hK _ ?_); clear hK) | (refine Qf rfl ?_; simp only [↓reduceIte, Qqw]))
     simp only [QE, Ql, Qr, upd, ↓reduceIte, Qqy, QqC]
     exact .inr ⟨rfl, js.length, rfl⟩
  ·rw [hI]
   have h1 : (l.take (i + 1)).filter (fun v => !p v) = l.take i := htk
   refine ⟨i + 1, [l[i]], rfl, hil, by rw [h1, List.length_take, List.length_singleton]; omega, by simp, rfl, rfl, ?_, ?_, ?_⟩
   ·rw [h1, List.length_take, Nat.min_eq_left (by omega)]; rfl
   ·simp only [upd, ↓reduceIte]
    rw [QP (by omega)]
   ·rw [h1]
    have : l.take i ++ [l[i]] ++ l.drop (i + 1) = l := by rw [← List.take_succ_eq_append_getElem hil, List.take_append_drop]
    rw [this]
end Go.Proofs.YtniljpjjnmkoaaaGreatDoor.Ab
set_option maxRecDepth 4000
namespace Go.Proofs.YtniljpjjnmkoaaaGreatDoor.Ab
open Go.Proofs
theorem T.cells4 (t : T) : t.av.cells.length = 4 := by rw [T.QpJ]; rfl
theorem Qng (n : ByteArray) (l : List T) (own : Option Nat) (h : AH) (ho : ∀ b, own = some b → b < h.length) : Q4 Tryz.prog 75 [.v (.string n), .sl 4 (avs l) own] h fun o h' => o = .ret (.agg [.i 2, .i 0, .v (.string n), .sl 4 (avs l) own]) ∧ h' = h := by
 refine Qe Tryz.func75 rfl Tryz.call75 Tryz.ntmps75 (congrArg Array.toList Tryz.results75) (by simp) ?_
 repeat (first | (((with_reducible refine Qa fun K E hK hE => ?_)); simp -implicitDefEqProofs only [Qg, Qh, OpW, aop, undef, AS.ev, Qy, AV.QpF, ↓reduceIte, QL, QF, Xy, XR, ti41, zi41, sp41, seval]) | (with_reducible refine Qj ?_) | ((with_reducible refine hK _ ?_); clear hK))
 simp -implicitDefEqProofs only [Qg, ↓reduceIte, QC, QD, ti41, QE, Ql, Qr, QqC, seval]
 exact Qd (htake _ _) (.keep (.agg _ (by
  intro a ha
  simp only [List.mem_cons, List.not_mem_nil, or_false] at ha
  rcases ha with rfl | rfl | rfl | rfl
  ·exact .v _
  ·exact .v _
  ·exact .v _
  ·exact .sl _ _ _ (Y7 _ _) ho))) ⟨rfl, rfl⟩
theorem QgG (vars v : Int) (p : Nat) (h : AH) (hp : h[p]? = some (.cells 3 1 [.i vars])) : Q4 Tryz.prog 77 [.i v, .ptr p 0 0] h fun o h' => o = .ret (.b (decide (v < vars))) ∧ h' = h := by
 refine Qe Tryz.func77 rfl Tryz.call77 Tryz.ntmps77 (congrArg Array.toList Tryz.results77) (by simp) ?_
 repeat (first | (((with_reducible refine Qa fun K E hK hE => ?_)); simp -implicitDefEqProofs only [Qg, Qh, OpW, aop, undef, AS.ev, Qy, ↓reduceIte, QC, QD, aBin, ti3, hp, seval]) | (with_reducible refine Qj ?_) | ((with_reducible refine hK _ ?_); clear hK))
 simp only [QE, Ql, Qr, upd, ↓reduceIte, Qqy, QqC]
 exact .inr ⟨rfl, rfl⟩
theorem Qm9 (fv : AV) : Pure Tryz.prog 120 [.sl 1 [] none, fv] (.i (-1)) := by
 intro h
 have h00 : ¬ ((0 : Int) < 0) := by decide
 refine Qe Tryz.func120 rfl Tryz.call120 Tryz.ntmps120 (congrArg Array.toList Tryz.results120) (by simp) ?_
 repeat (first | (((with_reducible refine Qa fun K E hK hE => ?_)); simp -implicitDefEqProofs only [Qg, Qh, OpW, aop, undef, AS.ev, Qy, ↓reduceIte, aLen, goInt, un49, seval]) | (with_reducible (first | refine Qc fun K hK => ?_ | refine Qi ?_)) | ((with_reducible refine hK _ ?_); clear hK))
 obtain ⟨I, hI⟩ : ∃ I : Nat → AS → Prop, I = fun m' s => m' = 0 ∧ s.tm 7 = .i 0 ∧ s.tm 8 = .i 0 ∧ s.h = h := ⟨_, rfl⟩; refine QJ I ?_ (m := 0) ?_
 ·intro m' s hs; rw [hI] at hs; obtain ⟨tm, hp⟩ := s; dsimp only at hs; obtain ⟨rfl, t7, t8, rfl⟩ := hs
  repeat (first | (((with_reducible refine Qa fun K E hK hE => ?_)); simp -implicitDefEqProofs only [Qg, Qh, OpW, aop, AS.ev, Nat.reduceLT, aBin, t7, t8, h00]) | (with_reducible (first | refine Qc fun K hK => ?_ | refine Qj ?_ | refine QB ?_ | refine Qb ?_ | refine Qw ?_ | refine Qv ?_)) | ((with_reducible refine hK _ ?_); clear hK) | (clear hK; (with_reducible refine hK _ ?_); clear hK) | (refine Qf rfl ?_; simp only [↓reduceIte, Qqw]))
  simp only [QE, Ql, Qr, upd, ↓reduceIte, Qqy, QqC]
  exact Qd List.take_length (.keep (.v _)) ⟨rfl, rfl⟩
 ·rw [hI]
  exact ⟨rfl, rfl, rfl, rfl⟩
theorem Qkj (fv : AV) : Pure Tryz.prog 76 [.sl 1 [] none, fv] (.sl 1 [] none) := by
 intro h
 have c1 := Qm9 fv
 have hne : ((-1 : Int) == -1) = true := by decide
 refine Qe Tryz.func76 rfl Tryz.call76 Tryz.ntmps76 (congrArg Array.toList Tryz.results76) (by simp) ?_
 repeat (first | ((first | (with_reducible (first | refine Qa fun K E hK hE => ?_ | refine Qq c1 ?_))); simp -implicitDefEqProofs only [Qg, Qh, OpW, QI, aop, undef, AS.ev, Qy, ↓reduceIte, aBin, seval]) | (with_reducible (first | refine Qc fun K hK => ?_ | refine Qj ?_ | refine Qo ?_)) | ((with_reducible refine hK _ ?_); clear hK) | (refine Qf rfl ?_; simp only [↓reduceIte]))
 simp only [QE, Ql, Qr, upd, ↓reduceIte, Qqy, QqC]
 exact Qd List.take_length (.tok (by simp [flat])) ⟨rfl, rfl⟩
def Xq (l : List G) : List T := l.flatMap fun g => g.args
theorem Qb0 {l : List G} {k : Nat} (h : k < l.length) : Xq (l.take (k + 1)) = Xq (l.take k) ++ (l[k]).args := by
 rw [Xq, List.take_succ_eq_append_getElem h, List.flatMap_append]; simp [Xq]
def Q3 (n : Int) (vals : List T) (store : List G) : List Int := (Yo (.mk 2 0 { data := #[] } (vals ++ Xq store))).filter fun v => !decide (v < n)
theorem Yw : ∀ a b : List T, ndsL (a ++ b) = ndsL a + ndsL b
 | [], b => by simp [ndsL]
 | t :: a, b => by simp only [QqU, ndsL, Yw a b]; omega
theorem QaP : ∀ {a b : List T}, oks a → oks b → oks (a ++ b)
 | [], b, _, h => h
 | t :: a, b, h, k => ⟨h.1, QaP h.2 k⟩
theorem Qdi : ∀ l : List G, ndsL (Xq l) ≤ gsN l
 | [] => by simp [Xq, ndsL]
 | g :: l => by
  have := Qdi l
  rw [Xq] at this
  simp only [Xq, List.flatMap_cons, Yw, gsN]; omega
theorem QgZ : ∀ {l : List G}, (∀ g ∈ l, oks g.args) → oks (Xq l)
 | [], _ => trivial
 | g :: l, h => by
  simp only [Xq, List.flatMap_cons]
  exact QaP (h g (by simp)) (QgZ fun x hx => h x (by simp [hx]))
theorem QeH (l : List G) (k : Nat) : ndsL (Xq (l.take k)) ≤ gsN l := by
 have h1 := Qdi (l.take k)
 have h2 : ∀ (l : List G) (k : Nat), gsN (l.take k) ≤ gsN l := fun l => by
  induction l with
  | nil => intro k; simp
  | cons g l ih => intro k; cases k with
   | zero => simp [gsN]
   | succ k => simp only [QqD, gsN]; have := ih k; omega
 have := h2 l k
 omega
theorem QhA (vals : List T) (store : List G) (n : Int) (o2 : Option Nat) (i : Nat) (h : AH) (hi : i < h.length) (hn : ndsL vals + gsN store ≤ 100000) (hov : oks vals) (hos : ∀ g ∈ store, oks g.args) :
  Q4 Tryz.prog 39 [.agg [.sl 4 (avs vals) (some i), .sl 2 (vs G.atom store) o2], .i n] (hs h i (.grow 41 4 vals.length)) fun o h' =>
   o = .ret (.sl 1 (ints (Q3 n vals store)) none) ∧ h' = hs h i (.grow 41 4 (vals ++ Xq store).length) := by
 have f1 := fun x => Zk h i x
 have f2 := fun x => QhF (h := h) (i := i) x
 have f3 := fun x => QoG (h := h) (i := i) x
 have f4 := fun x => Qmu (h := h) (i := i) x
 have f5 := fun x => QnN (h := h) (i := i) x
 have f6 := fun x => Qig hi x
 have f7 := fun x => Qil hi x
 have f8 := fun x => Qdn hi x
 have f9 := fun x => QgH hi x
 have hlv := QZ vals
 have hls := Zo store
 have cF := fun L => Qng { data := #[] } vals (some i) (hs h i (.grow 41 4 vals.length) ++ L) (fun b hb => by cases hb; rw [List.length_append, f1]; omega)
 refine Qe Tryz.func39 rfl Tryz.call39 Tryz.ntmps39 (congrArg Array.toList Tryz.results39) (by simp) ?_
 repeat (first | ((first | (with_reducible (first | refine Qa fun K E hK hE => ?_ | refine FunW.ret (FunW.call (cF _)) ?_))); simp -implicitDefEqProofs only [Qg, Qh, OpW, QI, aop, undef, AS.ev, Qy, AV.QpF, ↓reduceIte, Qp, QC, QD, QL, QF, aLen, goInt, ti29, ti30, un30, ti41, zi41, Qk1, Qkz, f1, f2, f3, f5, QN, seval]) | (with_reducible (first | refine Qc fun K hK => ?_ | refine Qi ?_)) | ((with_reducible refine hK _ ?_); clear hK))
 obtain ⟨I, hI⟩ : ∃ I : Nat → AS → Prop, I = fun m' s => ∃ (k : Nat) (M : AH), m' = store.length - k ∧ k ≤ store.length ∧ s.tm 2 = .ptr h.length 0 0 ∧ s.tm 3 = .ptr (h.length + 1) 0 0 ∧ s.tm 5 = .ptr (h.length + 2) 0 0 ∧ s.tm 12 = .sl 2 (vs G.atom store) o2 ∧ s.tm 13 = .i store.length ∧ s.tm 14 = .i k ∧
   s.h = hs h i (.grow 41 4 (vals ++ Xq (store.take k)).length) ++ ([.cells 76 2 [.agg [.sl 4 (avs vals) (some i), .sl 2 (vs G.atom store) o2]], .cells 3 1 [.i n], .cells 41 4 [.agg [.i 2, .i 0, .v (.string { data := #[] }), .sl 4 (avs (vals ++ Xq (store.take k))) (some i)]]] ++ M) := ⟨_, rfl⟩; refine QJ I ?_ (m := store.length) ?_
 ·intro m' s hs; rw [hI] at hs; obtain ⟨tm, hp⟩ := s; dsimp only at hs; obtain ⟨k, M, rfl, hk, t2, t3, t5, t12, t13, t14, rfl⟩ := hs
  have hlm : (vals ++ Xq (store.take k)).length ≤ 100000 := by
   have h1 := QZ (vals ++ Xq (store.take k))
   have h2 := QeH store k
   rw [Yw] at h1
   omega
  by_cases hlt : k < store.length
  ·have hla : (vals ++ Xq (store.take k)).length + (store[k]).args.length ≤ 100000 := by
    have h1 := QZ (vals ++ Xq (store.take (k + 1)))
    have h2 := QeH store (k + 1)
    rw [Yw] at h1
    rw [Qb0 hlt, ← List.append_assoc, List.length_append] at h1
    rw [Qb0 hlt] at h2
    omega
   have hb1 : (vals ++ Xq (store.take k)).length + (store[k]).args.length ≤ maxLen := by simp only [maxLen]; omega
   have hb2 : ((vals ++ Xq (store.take k)).length + (store[k]).args.length) * 56 ≤ 140737488355328 := by omega
   repeat (first | ((first | (with_reducible (first | refine Qa fun K E hK hE => ?_ | refine Qm fun K E hK hE => ?_))); simp -implicitDefEqProofs only [Qg, Qh, OpW, aop, undef, AS.ev, AV.QpF, ↓reduceIte, Qp, QC, QD, QL, QF, Qz, aBin, XA, X6, ti29, ai29, ei30, Xg, ti45, ZO, zi45, f1, f3, f5, f6, f7, t5, t12, t13, t14, hlt, QN, XN G.atom hlt, QQ, Q6, hb1, hb2, seval]) | (with_reducible (first | refine Qc fun K hK => ?_ | refine Qi ?_ | refine Qk ?_ | refine Qb ?_ | refine Qn ?_)) | ((with_reducible refine hK _ ?_); clear hK) | (refine Qf rfl ?_; simp only [↓reduceIte]))
   refine Q1.mk (m' := store.length - (k + 1)) (by omega) ?_
   rw [hI]
   refine ⟨k + 1, M ++ [.cells 45 2 [(store[k]).atom]], rfl, hlt, t2, t3, t5, t12, t13, ?_, ?_⟩
   ·simp only [upd, ↓reduceIte]
    rw [QP (by omega)]
   ·have e1 : vals ++ Xq (store.take (k + 1)) = vals ++ Xq (store.take k) ++ (store[k]).args := by rw [Qb0 hlt, List.append_assoc]
    rw [e1, QaJ (vals ++ Xq (store.take k)), List.length_append (bs := (store[k]).args)]
    simp [Qkk]
  ·have hkl : k = store.length := by omega
   subst hkl
   rw [List.take_length] at hlm ⊢
   have hA : ndsL (vals ++ Xq store) ≤ 100000 := by rw [Yw]; have := Qdi store; omega
   have hoA : oks (vals ++ Xq store) := QaP hov (QgZ hos)
   have hT : (T.mk 2 0 { data := #[] } (vals ++ Xq store)).nds ≤ 1000000 := by rw [T.QpH]; simp only [T.args]; omega
   have hTo : (T.mk 2 0 { data := #[] } (vals ++ Xq store)).ok := by
    refine ⟨by unfold i64; omega, by unfold i64; omega, by decide, hoA⟩
   have hw : WkL [AV.agg [.i 2, .i 0, .v (.string { data := #[] }), .sl 4 (avs (vals ++ Xq store)) (some i)]] [(T.mk 2 0 { data := #[] } (vals ++ Xq store)).av] :=
    .cons (.agg (.cons (.refl _) (.cons (.refl _) (.cons (.refl _) (.cons (.sl rfl (fun y hy => by rw [Zd, List.mem_map] at hy; obtain ⟨t, _, rfl⟩ := hy; exact T.cells4 t) (.refl _)) .nil))))) .nil
   repeat (first | (((with_reducible refine Qa fun K E hK hE => ?_)); simp -implicitDefEqProofs only [Qg, Qh, OpW, aop, AS.ev, ↓reduceIte, QC, QD, aBin, ti41, f3, t5, t13, t14, hlt, seval]) | (with_reducible (first | refine Qc fun K hK => ?_ | refine QB ?_ | refine Qb ?_ | refine Qw ?_ | refine Qv ?_)) | ((with_reducible refine hK _ ?_); clear hK) | (clear hK; (with_reducible refine hK _ ?_); clear hK) | (refine Qf rfl ?_; simp only [↓reduceIte, Qqw]))
   have hp1 : ∀ L : AH, (hs h i (.grow 41 4 (vals ++ Xq store).length) ++ AB.cells 76 2 [AV.agg [AV.sl 4 (avs vals) (some i), AV.sl 2 (vs G.atom store) o2]] :: AB.cells 3 1 [AV.i n] :: L)[h.length + 1]? = some (.cells 3 1 [.i n]) := fun L => by rw [f3]; rfl
   by_cases hne : Yo (.mk 2 0 { data := #[] } (vals ++ Xq store)) = []
   ·have cv := Qg6 (.mk 2 0 { data := #[] } (vals ++ Xq store)) hT hTo
    change Pure _ _ _ (.sl 1 (ints (Yo (.mk 2 0 { data := #[] } (vals ++ Xq store)))) none) at cv
    rw [hne] at cv
    have cv' := Zj hw cv
    have cd : ∀ fv, Pure Tryz.prog 76 [.sl 1 (ints []) none, fv] (.sl 1 [] none) := fun fv => Qkj fv
    have e0 : Q3 n vals store = [] := by rw [Q3, hne]; rfl
    refine Qq cv' ?_
    simp -implicitDefEqProofs only [Qg, Qh, OpW, QI, aop, AS.ev, ↓reduceIte, t3, seval]
    repeat (first | (((with_reducible refine Qq (cd _) ?_)); simp -implicitDefEqProofs only [XI, XT, Qh, OpW, QI, aop, AS.ev, XH, Qcv, ↓reduceIte, Nat.reduceLT]) | (with_reducible refine Qj ?_) | ((with_reducible refine hK _ ?_); clear hK))
    simp only [QE, Ql, Qr, upd, ↓reduceIte, Qqy, QqC]
    refine Q8 trivial (.tok (by simp [flat])) ⟨by rw [e0]; rfl, rfl⟩
   ·have cv := fun H => Qao hw (QmS (.mk 2 0 { data := #[] } (vals ++ Xq store)) hT hTo hne H)
    change ∀ H, Q4 _ _ _ H fun o h' => o = .ret (.arr H.length 0 (Yo (.mk 2 0 { data := #[] } (vals ++ Xq store))).length) ∧ h' = H ++ [.cells 3 1 (ints (Yo (.mk 2 0 { data := #[] } (vals ++ Xq store))))] at cv
    have hvl := Qce (.mk 2 0 { data := #[] } (vals ++ Xq store)) hT
    generalize hV : Yo (.mk 2 0 { data := #[] } (vals ++ Xq store)) = V at cv hvl
    have e0 : Q3 n vals store = V.filter fun v => !decide (v < n) := by rw [Q3, hV]
    have hp1' := hp1 (AB.cells 41 4 [AV.agg [AV.i 2, AV.i 0, AV.v (Value.string { data := #[] }), AV.sl 4 (avs (vals ++ Xq store)) (some i)]] :: M)
    have htk := htake (hs h i (.grow 41 4 (vals ++ Xq store).length)) (AB.cells 76 2 [AV.agg [AV.sl 4 (avs vals) (some i), AV.sl 2 (vs G.atom store) o2]] :: AB.cells 3 1 [AV.i n] :: AB.cells 41 4 [AV.agg [AV.i 2, AV.i 0, AV.v (Value.string { data := #[] }), AV.sl 4 (avs (vals ++ Xq store)) (some i)]] :: M)
    generalize hH : hs h i (.grow 41 4 (vals ++ Xq store).length) ++ AB.cells 76 2 [AV.agg [AV.sl 4 (avs vals) (some i), AV.sl 2 (vs G.atom store) o2]] :: AB.cells 3 1 [AV.i n] :: AB.cells 41 4 [AV.agg [AV.i 2, AV.i 0, AV.v (Value.string { data := #[] }), AV.sl 4 (avs (vals ++ Xq store)) (some i)]] :: M = H at *
    refine FunW.ret (FunW.call (cv H)) ?_
    simp -implicitDefEqProofs only [Qg, Qh, OpW, QI, aop, AS.ev, ↓reduceIte, t3, seval]
    have hlt1 := QA hp1'
    have hid : H.length < (H ++ [AB.cells 3 1 (ints V)]).length := by simp
    have hH0 : ∀ x, hs (H ++ [AB.cells 3 1 (ints V)]) H.length x = H ++ [x] := fun x => by simp [hs]
    have cd := Qjz (fun v => decide (v < n)) V hvl (.fn (.func 77) [] [.ptr (h.length + 1) 0 0]) (H ++ [AB.cells 3 1 (ints V)]) H.length hid (fun l v => FunW.fn (QgG n v (h.length + 1) _ (by
     rw [hH0, List.getElem?_append_left hlt1]; exact hp1')))
    rw [hH0] at cd
    refine (FunW.call cd).mono ?_
    rintro o h' ⟨rfl, k, rfl⟩
    rw [hH0]
    simp -implicitDefEqProofs only [XI, XT, Qh, OpW, QI, aop, AS.ev, XH, Qcv, ↓reduceIte, Nat.reduceLT]
    repeat (first | (with_reducible refine Qj ?_) | ((with_reducible refine hK _ ?_); clear hK))
    simp only [QE, Ql, Qr, upd, ↓reduceIte, Qqy, QqC]
    have hfr : Frz (H ++ [AB.cells 3 1 (ints (V.filter fun v => !decide (v < n)) ++ zeros k)]) h.length (.arr H.length 0 (V.filter fun v => !decide (v < n)).length) (.sl 1 (ints (V.filter fun v => !decide (v < n))) none) := by
     have h1 := Frz.arr (h := H ++ [AB.cells 3 1 (ints (V.filter fun v => !decide (v < n)) ++ zeros k)]) (m := h.length) (id := H.length) (lo := 0) (len := (V.filter fun v => !decide (v < n)).length) (by omega) (by rw [Qhg]; rfl)
      (by rw [List.length_append, Q0]; omega) (by
       intro a ha
       simp only [flat, List.mem_flatMap] at ha
       obtain ⟨x, hx, hax⟩ := ha
       rw [List.mem_append] at hx
       rcases hx with hx | hx
       ·simp only [ints, List.mem_map] at hx
        obtain ⟨v, _, rfl⟩ := hx
        simp only [AV.cells, List.mem_singleton] at hax
        subst hax; exact .v _
       ·rw [zeros, List.mem_replicate] at hx
        rw [hx.2] at hax
        simp only [AV.cells, List.mem_singleton] at hax
        subst hax; exact .v _)
     rw [List.drop_zero, List.take_left' (Q0 _)] at h1
     exact h1
    rw [← hH] at hfr ⊢
    rw [List.append_assoc] at hfr ⊢
    exact Q8 trivial hfr ⟨by rw [e0], rfl⟩
 ·rw [hI]
  exact ⟨0, [], by omega, Nat.zero_le _, rfl, rfl, rfl, rfl, by simp only [upd, ↓reduceIte, Nat.reduceEqDiff], rfl, by simp [Xq]⟩
end Go.Proofs.YtniljpjjnmkoaaaGreatDoor.Ab
set_option maxRecDepth 4000
namespace Go.Proofs.YtniljpjjnmkoaaaGreatDoor.Ab
open Go.Proofs
theorem Qm7 {α : Type} (c : α → α → Int) (x : α) : insC c [] x = [x] := rfl
theorem Qk7 {α : Type} (c : α → α → Int) (l : List α) (y x : α) : insC c (l ++ [y]) x = if c x y < 0 then insC c l x ++ [y] else l ++ [y] ++ [x] := by
 simp only [insC, List.reverse_append, List.reverse_cons, List.reverse_nil, QqT, QqU, insR]
 split <;> simp
theorem QjW {α : Type} (c : α → α → Int) (l : List α) (x : α) : Yq c (l ++ [x]) = insC c (Yq c l) x := by rw [Yq, List.foldl_append]; rfl
theorem Y5 {α : Type} (c : α → α → Int) (l : List α) : (Yq c l).length = l.length := (XJ c l).length_eq
theorem Qmo {α : Type} (A : List α) (y x : α) (B : List α) : ((A ++ y :: x :: B).set (A.length + 1) y).set A.length x = A ++ x :: y :: B := by
 rw [List.set_append_right _ _ (by omega), List.set_append_right _ _ (by omega)]
 simp
theorem QnB (f : G → AV) (l : List G) (k : Nat) (x : G) : (vs f l).set k (f x) = vs f (l.set k x) := by simp only [vs, List.map_set]
theorem Qd6 (l : List G) (hb : l.length ≤ 12) (hn : ∀ g ∈ l, ndsL g.args ≤ 1000000) (h : AH) (id : Nat) (hid : id < h.length) :
  Q4 Tryz.prog 157 [.arr id 0 l.length, .i 0, .i l.length, .fn (.func 52) [] []] (hs h id (.cells 45 2 (vs G.atom l))) fun o h' =>
   o = .ret (.tup []) ∧ h' = hs h id (.cells 45 2 (vs G.atom (Yq cmpG l))) := by
 have g1 := fun x => Qdn hid x
 have g2 := fun x y => QgH hid x y
 by_cases hl0 : l = []
 ·subst hl0
  have h1 : ¬ ((1 : Int) < 0) := by decide
  refine Qe Tryz.func157 rfl Tryz.call157 Tryz.ntmps157 (congrArg Array.toList Tryz.results157) (by simp) ?_
  repeat (first | (((with_reducible refine Qa fun K E hK hE => ?_)); simp -implicitDefEqProofs only [Qg, Qh, OpW, aop, undef, AS.ev, Qy, ↓reduceIte, Nat.reduceLT, aBin]) | (with_reducible refine Qi ?_) | ((with_reducible refine hK _ ?_); clear hK))
  obtain ⟨I, hI⟩ : ∃ I : Nat → AS → Prop, I = fun m' s => m' = 0 ∧ s.tm 8 = .i 1 ∧ s.tm 2 = .i 0 ∧ s.h = hs h id (.cells 45 2 (vs G.atom [])) := ⟨_, rfl⟩; refine QJ I ?_ (m := 0) ?_
  ·intro m' s hs; rw [hI] at hs; obtain ⟨tm, hp⟩ := s; dsimp only at hs; obtain ⟨rfl, t8, t2, rfl⟩ := hs
   repeat (first | (((with_reducible refine Qa fun K E hK hE => ?_)); simp -implicitDefEqProofs only [Qg, Qh, OpW, aop, AS.ev, ↓reduceIte, aBin, t8, t2, h1, seval]) | (with_reducible (first | refine Qc fun K hK => ?_ | refine QB ?_ | refine Qw ?_ | refine Qv ?_)) | ((with_reducible refine hK _ ?_); clear hK) | (refine Qf rfl ?_; simp only [↓reduceIte, Qqw]))
   exact ⟨.tup [], rfl, .inr ⟨rfl, rfl⟩⟩
  ·rw [hI]
   exact ⟨rfl, rfl, rfl, rfl⟩
 have hlp : 0 < l.length := List.length_pos_iff.2 hl0
 have hsl : ∀ i, i ≤ l.length → (Yq cmpG (l.take i)).length = i := fun i hi => by rw [Y5, List.length_take]; omega
 have hsn : ∀ i, ∀ g ∈ Yq cmpG (l.take i), ndsL g.args ≤ 1000000 := fun i g hg => hn g (List.mem_of_mem_take ((XJ cmpG _).mem_iff.1 hg))
 refine Qe Tryz.func157 rfl Tryz.call157 Tryz.ntmps157 (congrArg Array.toList Tryz.results157) (by simp) ?_
 repeat (first | (((with_reducible refine Qa fun K E hK hE => ?_)); simp -implicitDefEqProofs only [Qg, Qh, OpW, aop, undef, AS.ev, Qy, ↓reduceIte, Nat.reduceLT, aBin]) | (with_reducible refine Qi ?_) | ((with_reducible refine hK _ ?_); clear hK))
 obtain ⟨I, hI⟩ : ∃ I : Nat → AS → Prop, I = fun m' s => ∃ i : Nat, m' = l.length - i ∧ 1 ≤ i ∧ i ≤ l.length ∧ s.tm 0 = .arr id 0 l.length ∧ s.tm 1 = .i 0 ∧ s.tm 2 = .i l.length ∧ s.tm 3 = .fn (.func 52) [] [] ∧ s.tm 8 = .i i ∧ s.h = hs h id (.cells 45 2 (vs G.atom (Yq cmpG (l.take i) ++ l.drop i))) := ⟨_, rfl⟩; refine QJ I ?_ (m := l.length - 1) ?_
 ·have hO := hI
  intro m' s hs; rw [hI] at hs; obtain ⟨tm, hp⟩ := s; dsimp only at hs; obtain ⟨i, rfl, hi1, hi, t0, t1, t2, t3, t8, rfl⟩ := hs
  by_cases hlt : i < l.length
  ·repeat (first | (((with_reducible refine Qa fun K E hK hE => ?_)); simp -implicitDefEqProofs only [Qg, Qh, OpW, aop, AS.ev, ↓reduceIte, aBin, t2, t8, hlt, seval]) | (with_reducible (first | refine Qc fun K hK => ?_ | refine Qi ?_ | refine Qk ?_ | refine Qb ?_)) | ((with_reducible refine hK _ ?_); clear hK) | (refine Qf rfl ?_; simp only [↓reduceIte]))
   -- the sorted part S, and x
   generalize hS : Yq cmpG (l.take i) = S
   have hSl : S.length = i := by rw [← hS]; exact hsl i hi
   have hSn : ∀ g ∈ S, ndsL g.args ≤ 1000000 := by rw [← hS]; exact hsn i
   have hxn : ndsL (l[i]).args ≤ 1000000 := hn _ (List.getElem_mem hlt)
   obtain ⟨I, hI⟩ : ∃ I : Nat → AS → Prop, I = fun m' s => ∃ j : Nat, m' = j ∧ j ≤ i ∧ insC cmpG S l[i] = insC cmpG (S.take j) l[i] ++ S.drop j ∧ s.tm 0 = .arr id 0 l.length ∧ s.tm 1 = .i 0 ∧ s.tm 2 = .i l.length ∧ s.tm 3 = .fn (.func 52) [] [] ∧ s.tm 8 = .i i ∧ s.tm 9 = .i j ∧ s.h = hs h id (.cells 45 2 (vs G.atom (S.take j ++ l[i] :: (S.drop j ++ l.drop (i + 1))))) := ⟨_, rfl⟩; refine QJ I ?_ (m := i) ?_
   ·intro m' s hs; rw [hI] at hs; obtain ⟨tm, hp⟩ := s; dsimp only at hs; obtain ⟨j, hm, hj, he, t0, t1, t2, t3, t8, t9, rfl⟩ := hs
    have fin : ∀ (R : List G), R = insC cmpG S l[i] ++ l.drop (i + 1) → R = Yq cmpG (l.take (i + 1)) ++ l.drop (i + 1) := fun R hR => by
     rw [hR, List.take_succ_eq_append_getElem hlt, QjW, hS]
    cases j with
    | zero =>
     have h00 : ¬ ((0 : Int) > 0) := by decide
     repeat (first | ((first | (with_reducible refine Qm fun K E hK hE => ?_) | (refine Qt (id := 4) [(0, 0), (1, 0), (2, 0), (3, 0), (4, 0), (5, 0), (6, 0), (7, 0), (8, 0), (9, 0), (10, 0), (11, 0), (12, 0), (13, 0), (14, 1), (15, 0), (16, 0)] mixed (by kernel_rfl) fun K hK => ?_)); simp -implicitDefEqProofs only [Qg, Qh, OpW, aop, undef, AS.ev, ↓reduceIte, aBin, t1, t8, t9, h00, seval]) | (with_reducible (first | refine Qc fun K hK => ?_ | refine QB ?_ | refine Qb ?_ | refine Qw ?_ | refine Qn ?_ | refine Qv ?_)) | ((with_reducible refine hK _ ?_); clear hK) | (clear hK; (with_reducible refine hK _ ?_); clear hK) | (refine Qf rfl ?_; simp only [↓reduceIte, Qqw]))
     refine Q1.mk (m' := l.length - (i + 1)) (by omega) ?_
     rw [hO]
     refine ⟨i + 1, rfl, by omega, hlt, t0, t1, t2, t3, ?_, ?_⟩
     ·simp only [upd, ↓reduceIte]
      rw [QP (by omega)]
     ·rw [fin _ (show l[i] :: (S ++ l.drop (i + 1)) = _ by rw [he]; simp [Qm7])]
    | succ j =>
     have hjS : j < S.length := by omega
     have hw1 : IntKind.i64.wrap (((j + 1 : Nat) : Int) - 1) = ((j : Nat) : Int) := by rw [Xp (by omega)]; omega
     have hpos : ((j + 1 : Nat) : Int) > 0 := by omega
     have hts : S.take (j + 1) = S.take j ++ [S[j]] := List.take_succ_eq_append_getElem hjS
     have hA : (S.take j).length = j := by rw [List.length_take]; omega
     have hL : S.take (j + 1) ++ l[i] :: (S.drop (j + 1) ++ l.drop (i + 1)) = S.take j ++ S[j] :: l[i] :: (S.drop (j + 1) ++ l.drop (i + 1)) := by rw [hts, List.append_assoc]; rfl
     have hk1 : (S.take j ++ S[j] :: l[i] :: (S.drop (j + 1) ++ l.drop (i + 1)))[j + 1]? = some l[i] := by
      rw [List.getElem?_append_right (by omega), hA]; simp
     have hk0 : (S.take j ++ S[j] :: l[i] :: (S.drop (j + 1) ++ l.drop (i + 1)))[j]? = some S[j] := by
      rw [List.getElem?_append_right (by omega), hA, Nat.sub_self]; rfl
     have hv1 : (vs G.atom (S.take j ++ S[j] :: l[i] :: (S.drop (j + 1) ++ l.drop (i + 1))))[j + 1]? = some (l[i]).atom := by rw [vs, List.getElem?_map, hk1]; rfl
     have hv0 : (vs G.atom (S.take j ++ S[j] :: l[i] :: (S.drop (j + 1) ++ l.drop (i + 1))))[j]? = some (S[j]).atom := by rw [vs, List.getElem?_map, hk0]; rfl
     have hsw : ((vs G.atom (S.take j ++ S[j] :: l[i] :: (S.drop (j + 1) ++ l.drop (i + 1)))).set (j + 1) (S[j]).atom).set j (l[i]).atom = vs G.atom (S.take j ++ l[i] :: S[j] :: (S.drop (j + 1) ++ l.drop (i + 1))) := by
      rw [QnB, QnB]
      have := Qmo (S.take j) S[j] l[i] (S.drop (j + 1) ++ l.drop (i + 1))
      rw [hA] at this
      rw [this]
     have hj1 : j + 1 < l.length := by omega
     have hj0 : j < l.length := by omega
     have cc := ZS l[i] S[j] hxn
     rw [hts, Qk7] at he
     rw [hL]
     by_cases hc : cmpG l[i] S[j] < 0
     ·rw [if_pos hc] at he
      have hcb : cmpG l[i] S[j] < 0 := hc
      have hv2 : ((vs G.atom (S.take j ++ S[j] :: l[i] :: (S.drop (j + 1) ++ l.drop (i + 1)))).set (j + 1) (S[j]).atom)[j]? = some (S[j]).atom := by rw [List.getElem?_set_ne (by omega)]; exact hv0
      repeat (first | ((first | (with_reducible (first | refine Qm fun K E hK hE => ?_ | refine Qu cc ?_)) | (refine Qt (id := 4) [(0, 0), (1, 0), (2, 0), (3, 0), (4, 0), (5, 0), (6, 0), (7, 0), (8, 0), (9, 0), (10, 0), (11, 0), (12, 0), (13, 0), (14, 1), (15, 0), (16, 0)] mixed (by kernel_rfl) fun K hK => ?_) | (refine QH (id := 6) [(0, 0), (1, 0), (2, 1), (3, 1), (4, 1), (5, 0), (6, 0), (7, 0), (8, 0), (9, 0), (10, 0), (11, 0), (12, 0), (13, 0), (14, 0), (15, 2), (16, 0), (17, 2)] mixed (by kernel_rfl) fun K hK => ?_)); simp -implicitDefEqProofs only [Qg, Qh, OpW, aop, undef, AS.ev, AV.QpF, ↓reduceIte, QC, QD, QL, QF, Qz, aBin, ei30, ti45, t0, t1, t3, t9, hpos, hw1, g1, g2, hv1, hv0, hv2, hj1, hj0, QQ, Q6, hcb, hsw, seval]) | (with_reducible (first | refine Qc fun K hK => ?_ | refine Qi ?_ | refine Qk ?_ | refine Qb ?_ | refine Qn ?_)) | ((with_reducible refine hK _ ?_); clear hK) | (refine Qf rfl ?_; simp only [↓reduceIte]))
      refine Q1.mk (m' := j) (by omega) ?_
      rw [hI]
      refine ⟨j, rfl, by omega, ?_, t0, t1, t2, t3, t8, ?_, ?_⟩
      ·rw [he, List.append_assoc, List.drop_eq_getElem_cons hjS]; rfl
      ·simp only [upd, ↓reduceIte]
      ·rw [List.drop_eq_getElem_cons hjS]; rfl
     ·rw [if_neg hc] at he
      have hcb : ¬ cmpG l[i] S[j] < 0 := hc
      repeat (first | ((first | (with_reducible (first | refine Qm fun K E hK hE => ?_ | refine Qu cc ?_)) | (refine Qt (id := 4) [(0, 0), (1, 0), (2, 0), (3, 0), (4, 0), (5, 0), (6, 0), (7, 0), (8, 0), (9, 0), (10, 0), (11, 0), (12, 0), (13, 0), (14, 1), (15, 0), (16, 0)] mixed (by kernel_rfl) fun K hK => ?_)); simp -implicitDefEqProofs only [Qg, Qh, OpW, aop, AS.ev, ↓reduceIte, QC, QD, Qz, aBin, ei30, ti45, t0, t1, t3, t8, t9, hpos, hw1, g1, hv1, hv0, hj1, hj0, QQ, Q6, hcb, seval]) | (with_reducible (first | refine Qc fun K hK => ?_ | refine QB ?_ | refine Qb ?_ | refine Qw ?_ | refine Qn ?_ | refine Qv ?_)) | ((with_reducible refine hK _ ?_); clear hK) | (clear hK; (with_reducible refine hK _ ?_); clear hK) | (refine Qf rfl ?_; simp only [↓reduceIte, Qqw]))
      refine Q1.mk (m' := l.length - (i + 1)) (by omega) ?_
      rw [hO]
      refine ⟨i + 1, rfl, by omega, hlt, t0, t1, t2, t3, ?_, ?_⟩
      ·simp only [upd, ↓reduceIte]
       rw [QP (by omega)]
      ·rw [fin _ (show S.take j ++ S[j] :: l[i] :: (S.drop (j + 1) ++ l.drop (i + 1)) = _ by rw [he]; simp only [List.append_assoc, QqU, QqT])]
   ·rw [hI]
    refine ⟨i, rfl, Nat.le_refl _, ?_, t0, t1, t2, t3, t8, rfl, ?_⟩
    ·rw [List.take_of_length_le (by omega), List.drop_eq_nil_of_le (by omega), List.append_nil]
    ·have e1 : S.take i = S := List.take_of_length_le (by omega)
     have e2 : S.drop i = [] := List.drop_eq_nil_of_le (by omega)
     rw [e1, e2, List.nil_append, ← List.drop_eq_getElem_cons hlt]
  ·have hil : i = l.length := by omega
   subst hil
   rw [List.take_length, List.drop_length, List.append_nil]
   repeat (first | (((with_reducible refine Qa fun K E hK hE => ?_)); simp -implicitDefEqProofs only [Qg, Qh, OpW, aop, AS.ev, ↓reduceIte, aBin, t2, t8, hlt, seval]) | (with_reducible (first | refine Qc fun K hK => ?_ | refine QB ?_ | refine Qw ?_ | refine Qv ?_)) | ((with_reducible refine hK _ ?_); clear hK) | (refine Qf rfl ?_; simp only [↓reduceIte, Qqw]))
   exact ⟨.tup [], rfl, .inr ⟨rfl, rfl⟩⟩
 ·rw [hI]
  refine ⟨1, rfl, Nat.le_refl _, hlp, rfl, rfl, rfl, rfl, rfl, ?_⟩
  obtain ⟨a, l', rfl⟩ : ∃ a l', l = a :: l' := by cases l with | nil => exact absurd rfl hl0 | cons a l' => exact ⟨a, l', rfl⟩
  rfl
end Go.Proofs.YtniljpjjnmkoaaaGreatDoor.Ab
namespace Go.Proofs.YtniljpjjnmkoaaaGreatDoor.Ab
open Go.ChangeShapes Go.WideShapes Go.ChangeAt Go.RowKit
def base0 (W : World) : Cx := ⟨fun _ => none, [], W⟩
theorem Qjw {W : World} {B o : Nat} (h : B < W.heap.size) : (base0 W).prot B o := ⟨h, fun id b hb => by simp [base0] at hb⟩
theorem ZE {H : Type} {enc : TypeId × Value → H} {P : Program} (hl : laidOutB P = true) {W W' : World} (hb : Go.RowKit.Below W.heap.size W W') {sp : Nat → Bool} :
  ∀ (ts : List TypeId) (vs : List Value) (ds : List (DataW H)) (ps : List MemPlace), (∀ t ∈ ts, P.readableRec t = true ∧ t < P.types.size) → DataW.TrodAll enc P W 0 (fun _ => true) true ts vs ds ps →
   (∀ x ∈ ps, x.block < W.heap.size ∧ sp x.block = true) → DataW.TrodAll enc P W' 0 sp true ts vs ds ps
 | [], vs, ds, ps, _, h, _ => by
  obtain ⟨rfl, rfl, rfl⟩ := trodAll_nil h
  exact trodAll_mk0
 | t :: ts, vs, ds, ps, hp, h, hlt => by
  obtain ⟨v, vs', d, ds', p, q, rfl, rfl, rfl, h1, h2⟩ := trodAll_cons h
  obtain ⟨h3, h4⟩ := hp t (by simp)
  exact trodAll_cons_mk (WideElems.Trod_stays hl h3 h4 h1 (fun x hx => hb.same (hlt x (by simp [hx])).1) (fun x hx => (hlt x (by simp [hx])).2))
   (ZE hl hb ts vs' ds' q (fun t ht => hp t (by simp [ht])) h2 (fun x hx => hlt x (by simp [hx])))
theorem Qcs {H : Type} {enc : TypeId × Value → H} {P : Program} {W : World} {base : Nat} {sp : Nat → Bool} {held : Bool} :
  ∀ {ts : List TypeId} {vs : List Value} {ds : List (DataW H)} {ps : List MemPlace} {ts' : List TypeId} {vs' : List Value} {ds' : List (DataW H)} {ps' : List MemPlace},
   DataW.TrodAll enc P W base sp held ts vs ds ps → DataW.TrodAll enc P W base sp held ts' vs' ds' ps' → DataW.TrodAll enc P W base sp held (ts ++ ts') (vs ++ vs') (ds ++ ds') (ps ++ ps')
 | [], _, _, _, _, _, _, _, h, h' => by
  obtain ⟨rfl, rfl, rfl⟩ := trodAll_nil h
  exact h'
 | t :: ts, _, _, _, _, _, _, _, h, h' => by
  obtain ⟨v, vs', d, ds', p, q, rfl, rfl, rfl, h1, h2⟩ := trodAll_cons h
  have := trodAll_cons_mk h1 (Qcs h2 h')
  simpa [List.append_assoc] using this
theorem QeJ {H : Type} {enc : TypeId × Value → H} {P : Program} {fn : Func} {s : ChangeSpec} {apart fresh handsOn again : Bool} {W W' : World} {args : Array Value} {ds gs : List (DataW H)} {before : List MemPlace} {tb : TypeId}
  (hl : laidOutB P = true) (hvars : s.vars = []) (hr : fn.resultTypes = #[tb]) (hb : P.underlying tb = some .bool) (hp : ∀ t ∈ fn.params.toList, P.readableRec t = true ∧ t < P.types.size)
  (hW : DataW.Whole enc P fn.params.toList s.vars apart W args.toList ds gs before) (hs : s.fn H (ds ++ gs) = { results := [.lit (.bool true)], args := ds }) (hbel : Go.RowKit.Below W.heap.size W W') :
  s.post enc P fn apart fresh handsOn again W args (.bool true) W' := by
 have hlt : ∀ x ∈ before, x.block < W.heap.size := fun x hx => by simpa using hW.lt x hx
 have hW0 := hW
 obtain ⟨p, q, hA, hV, rfl, hfz, hnd⟩ := hW
 rw [hvars] at hV
 have hV0 := hV
 obtain ⟨rfl, rfl⟩ := trodVars_none hV
 simp only [QqV] at hlt hfz hnd hW0 hs
 have hres : ∀ (b : Nat) (sp : Nat → Bool) (hd : Bool), DataW.TrodAll enc P W' b sp hd fn.resultTypes.toList ((Value.bool true).resultList fn.resultTypes.size) [.lit (.bool true)] [] := fun b sp hd => by
  rw [hr]
  exact trodAll_mk1 (shut_bool hb true)
 have hvs : ∀ sp : Nat → Bool, DataW.TrodVars enc P W' sp s.vars [] [] := fun sp => by rw [hvars]; rfl
 refine ⟨ds, [], p, [], p, [], by simpa using hW0, ?_, ?_, ?_, ?_, fun _ => ⟨?_, ?_⟩⟩
 ·rw [List.append_nil, hs]; exact hres _ _ _
 ·rw [List.append_nil, hs]
  exact ZE hl hbel _ _ _ _ hp hA fun x hx => ⟨hlt x hx, by simpa using hlt x hx⟩
 ·rw [List.append_nil, hs]; exact hvs _
 ·exact hbel.frame _
 ·intro j t r hj hv
  rw [hr] at hj hv
  match j, hj, hv with
  | 0, hj, hv =>
   simp only [Qqv, Qqs, Qqy] at hj
   have hv' : r = .bool true := by
    have : (some (Value.bool true)) = some r := hv
    cases this; rfl
   subst hj; subst hv'
   exact okWide_bool_mk hb true
  | j + 1, hj, hv => simp at hj
 ·have hA' := ZE (sp := fun _ => true) hl hbel _ _ _ _ hp hA fun x hx => ⟨hlt x hx, rfl⟩
  refine ⟨_, [], [] ++ p, ⟨[] ++ p, [], Qcs (hres 0 _ true) hA', hvs _, by simp, ?_, ?_⟩, ?_⟩
  ·intro b off hm
   have hm' : MemPlace.cell b off ∈ p := by simpa using hm
   exact (hbel.frozen (p := ⟨b, off, none⟩) (hlt _ hm')).trans (hfz b off hm')
  ·intro ha
   simpa using hnd ha
  ·intro x hx _
   simpa using hx
theorem Qg8 {P : Program} {w : World} {r : Reach} {b : Nat} {t : TypeId} {fs : Array Field} {v : Value} (ht : P.underlying t = some (.struct fs)) (hv : Value.okWide P w r b t v) : ∃ cs, v = .agg cs := by
 simp only [Value.okWide, ht] at hv
 obtain ⟨cs, rfl, _⟩ := hv
 exact ⟨cs, rfl⟩
def Reads (W : World) (a : AV) (cs : List Value) : Prop := cs.length = a.cells.length ∧ ∀ (j : Nat) x u, a.cells[j]? = some x → cs[j]? = some u → Rel (base0 W) x u ∧ u.oneCell' = true
theorem Qgf {w : World} {a : Addr} {u : Value} (h : w.cell? a = some u) : a.block < w.heap.size ∧ a.spot = none := by
 unfold World.cell? at h
 cases hb : w.heap[a.block]? with
 | none => simp [hb] at h
 | some o =>
  rw [hb] at h
  refine ⟨(Array.getElem?_eq_some_iff.1 hb).1, ?_⟩
  cases o with
  | cells c _ _ =>
   simp only at h
   split at h
   ·cases h
   ·rename_i hs
    cases hsp : a.spot with
    | none => rfl
    | some q => rw [hsp] at hs; simp at hs
  | _ => cases h
theorem QaO {H : Type} {enc : TypeId × Value → H} {P : Program} {W : World} {t e : TypeId} {s fuel : Nat} {cs : List Value} {y : DataW H × List MemPlace} {X : Type} {val : X → AV} {Good : X → Prop}
  (ht : P.underlying t = some (.slice e)) (hs : P.cellsOf e = s) (hpos : 0 < s) (hval : ∀ x, (val x).cells.length = s)
  (rd : ∀ n cs y, n < fuel → DataW.trod enc P W 0 (fun _ => true) true n e cs = some y → ∃ x : X, Good x ∧ Reads W (val x) cs)
  (h : DataW.trod enc P W 0 (fun _ => true) true fuel t cs = some y) : ∃ (xs : List X) (u : Value), (∀ x ∈ xs, Good x) ∧ cs = [u] ∧ u.oneCell' = true ∧ Rel (base0 W) (.sl s (xs.map val) none) u := by
 rcases DataW.trod_slice ht h with ⟨rfl, _⟩ | ⟨a, len, cap, elems, rest, n, rfl, rfl, _, _, hlc, hcm, hlen, hel, hsp, _⟩
 ·exact ⟨[], _, (by simp), rfl, rfl, .slnil s none fun b hb => by cases hb⟩
 ·have each : ∀ i, i < len → ∃ x : X, Good x ∧ ∃ cs, W.cells? 0 (a.add (i * s)) s = some cs ∧ Reads W (val x) cs := by
   intro i hi
   have h1 := hel i hi
   rw [List.getElem?_eq_getElem (by omega), hs, Option.bind_eq_some_iff] at h1
   obtain ⟨cs, h2, h3⟩ := h1
   obtain ⟨x, hx1, hx2⟩ := rd n cs _ (Nat.lt_succ_self n) h3
   exact ⟨x, hx1, cs, h2, hx2⟩
  obtain ⟨xs, hxl, hxs⟩ : ∃ xs : List X, xs.length = len ∧ ∀ i (hi : i < xs.length), Good xs[i] ∧ ∃ cs, W.cells? 0 (a.add (i * s)) s = some cs ∧ Reads W (val xs[i]) cs := by
   have : ∀ m, m ≤ len → ∃ xs : List X, xs.length = m ∧ ∀ i (hi : i < xs.length), Good xs[i] ∧ ∃ cs, W.cells? 0 (a.add (i * s)) s = some cs ∧ Reads W (val xs[i]) cs := by
    intro m
    induction m with
    | zero => exact fun _ => ⟨[], rfl, fun i hi => by simp at hi⟩
    | succ m ih =>
     intro hm
     obtain ⟨xs, hl, hx⟩ := ih (by omega)
     obtain ⟨x, hg, hr⟩ := each m (by omega)
     refine ⟨xs ++ [x], by simp [hl], fun i hi => ?_⟩
     by_cases hi' : i < xs.length
     ·rw [List.getElem_append_left hi']; exact hx i hi'
     ·have e : i = m := by simp at hi; omega
      subst e
      have hxe : (xs ++ [x])[i] = x := by simp [← hl]
      rw [hxe]
      exact ⟨hg, hr⟩
   exact this len (Nat.le_refl _)
  have hgood : ∀ x ∈ xs, Good x := fun x hx => by
   obtain ⟨i, hi, rfl⟩ := List.getElem_of_mem hx
   exact (hxs i hi).1
  by_cases hcap : cap = 0
  ·have hl0 : len = 0 := by omega
   subst hcap; subst hl0
   have : xs = [] := List.length_eq_zero_iff.1 hxl
   subst this
   exact ⟨[], _, (by simp), rfl, rfl, .slzero s none a fun b hb => by cases hb⟩
  ·have hspot : a.spot = none := by
    have key : W.cells? 0 (a.add (0 * s)) s ≠ none → a.spot = none := by
     intro hk
     cases hc : W.cells? 0 (a.add (0 * s)) s with
     | none => exact absurd hc hk
     | some cs =>
      obtain ⟨_, hl, hcell⟩ := World.cells?_some hc
      have := hcell 0 hpos
      rw [List.getElem?_eq_getElem (by omega)] at this
      have := (Qgf this).2
      simpa [Addr.add] using this
    by_cases hl : 0 < len
    ·refine key fun hn => ?_
     have := hel 0 hl
     rw [hs, hn, List.getElem?_eq_getElem (by omega)] at this
     simp at this
    ·obtain ⟨hrl, hr⟩ := hsp rfl
     refine key fun hn => ?_
     have := hr 0 (by omega)
     rw [show len + 0 = 0 by omega, hs, hn, List.getElem?_eq_getElem (by omega)] at this
     simp at this
   have ha : a = ⟨a.block, a.off, none⟩ := by cases a; simp only at hspot; subst hspot; rfl
   have hvs : ∀ x ∈ xs.map val, x.cells.length = s := fun x hx => by
    obtain ⟨z, _, rfl⟩ := List.mem_map.1 hx
    exact hval z
   have hflat : ∀ (j : Nat) (v : AV), (flat (xs.map val))[j]? = some v → ∃ (i : Nat) (hi : i < xs.length) (k : Nat), k < s ∧ j = i * s + k ∧ (val xs[i]).cells[k]? = some v := by
    intro j v hj
    have hlt := QA hj
    rw [flat_length hvs, List.length_map] at hlt
    have hi : j / s < xs.length := by rw [Nat.div_lt_iff_lt_mul hpos]; exact hlt
    have hdm := Nat.div_add_mod j s
    have hml := Nat.mod_lt j hpos
    refine ⟨j / s, hi, j % s, hml, by rw [Nat.mul_comm]; exact hdm.symm, ?_⟩
    obtain ⟨v', hv'⟩ : ∃ v', (val (xs[j / s]'hi)).cells[j % s]? = some v' := ⟨_, List.getElem?_eq_getElem (by rw [hval]; exact hml)⟩
    have := flat_get hvs (k := j / s) (x := val (xs[j / s]'hi)) (by rw [List.getElem?_map, List.getElem?_eq_getElem hi]; rfl) hv'
    rw [show j / s * s + j % s = j by rw [Nat.mul_comm]; exact hdm, hj] at this
    rw [hv', this]
   have hcell : ∀ (j : Nat) (v : AV), (flat (xs.map val))[j]? = some v → ∃ u, W.cell? ⟨a.block, a.off + j, none⟩ = some u ∧ Rel (base0 W) v u ∧ u.oneCell' = true := by
    intro j v hj
    obtain ⟨i, hi, k, hk, rfl, hv⟩ := hflat j v hj
    obtain ⟨_, cs, hcs, hrd⟩ := hxs i hi
    obtain ⟨_, hl, hc⟩ := World.cells?_some hcs
    obtain ⟨u, hu⟩ : ∃ u, cs[k]? = some u := ⟨_, List.getElem?_eq_getElem (by omega)⟩
    have h1 := hc k hk
    rw [hu] at h1
    obtain ⟨h2, h3⟩ := hrd.2 k v u hv hu
    refine ⟨u, ?_, h2, h3⟩
    have e : (a.add (i * s)).add k = ⟨a.block, a.off + (i * s + k), none⟩ := by
     rw [ha, addr_add, addr_add, Nat.add_assoc]
    rw [← e]
    exact h1
   refine ⟨xs, _, hgood, rfl, rfl, ?_⟩
   have hsl := Rel.sl (c := base0 W) s (xs.map val) none a.block a.off cap (fun j => (W.cell? ⟨a.block, a.off + j, none⟩).getD undef) hvs (by rw [List.length_map]; omega) hcm
    (fun j v hj => by
     obtain ⟨u, h1, h2, h3⟩ := hcell j v hj
     rw [h1]
     exact ⟨⟨h1, Qjw (Qgf h1).1⟩, h3⟩)
    (fun j v hj => by
     obtain ⟨u, h1, h2, h3⟩ := hcell j v hj
     rw [h1]
     exact h2)
    (fun b hb => by cases hb)
   rw [List.length_map, hxl, ← ha] at hsl
   exact hsl
theorem QiE (c : Cx) : RelL c [] #[] := ⟨rfl, fun j a u h => by simp at h⟩
theorem Qc3 {c : Cx} {a : AV} {asx : List AV} {u : Value} {us : List Value} (h : Rel c a u) (hs : RelL c asx us.toArray) : RelL c (a :: asx) (u :: us).toArray := by
 refine ⟨by have := hs.1; simp at this ⊢; exact this, fun j x v hx hv => ?_⟩
 cases j with
 | zero => simp at hx hv; subst hx; subst hv; exact h
 | succ j => exact hs.2 j x v (by simpa using hx) (by simpa using hv)
theorem Qle {W : World} {l : List AV} {cs : Array Value} (h : Reads W (.agg l) cs.toList) : Rel (base0 W) (.agg l) (.agg cs) :=
 .agg l cs (by have := h.1; simpa [AV.cells] using this) fun j a u ha hu => (h.2 j a u ha (by simpa using hu)).1
theorem QeW {H : Type} {enc : TypeId × Value → H} {P : Program} {W : World} {r : Reach} {b0 : Nat} {t : TypeId} {fs : Array Field} {v : Value} {d : DataW H} {ps : List MemPlace} {X : Type} {val : X → AV} {Good : X → Prop}
  (ht : P.underlying t = some (.struct fs)) (hv : Value.okWide P W r b0 t v) (hd : DataW.Trod enc P W 0 (fun _ => true) true t v d ps) (hval : ∀ x, ∃ l, val x = .agg l)
  (rd : ∀ fuel cs y, DataW.trod enc P W 0 (fun _ => true) true fuel t cs = some y → ∃ x : X, Good x ∧ Reads W (val x) cs) : ∃ x : X, Good x ∧ Rel (base0 W) (val x) v := by
 obtain ⟨cs, rfl⟩ := Qg8 ht hv
 obtain ⟨fuel, hf⟩ := hd
 obtain ⟨x, hg, hr⟩ := rd fuel _ _ hf
 obtain ⟨l, hl⟩ := hval x
 refine ⟨x, hg, ?_⟩
 rw [hl] at hr ⊢
 exact Qle hr
theorem QY {α : Type} {n : Nat} : ∀ {l : List α}, l.length = n + 1 → ∃ a l', l = a :: l' ∧ l'.length = n
 | a :: l, h => ⟨a, l, rfl, by simpa using h⟩
theorem len_nil {α : Type} {l : List α} (h : l.length = 0) : l = [] := List.length_eq_zero_iff.1 h
end Go.Proofs.YtniljpjjnmkoaaaGreatDoor.Ab
namespace Go.Proofs.YtniljpjjnmkoaaaGreatDoor.Ab
open Go.RowKit
def HasG (h : AH) (g : Nat) (cs : Array Value) : Prop := ∃ (i : Nat) (ty : TypeId) (fr : Nat × Nat), h[i]? = some (.glob g cs ty fr)
theorem HasG.app {h : AH} {g : Nat} {cs : Array Value} (H : HasG h g cs) (l : AH) : HasG (h ++ l) g cs := let ⟨i, ty, fr, e⟩ := H; ⟨i, ty, fr, hext e l⟩
theorem HasG.world {c : Cx} (hst : St c) {g : Nat} {cs : Array Value} (H : HasG c.h g cs) : ∃ ty fr, c.w.heap[g]? = some (.cells cs ty fr) :=
 let ⟨i, ty, fr, e⟩ := H; ⟨ty, fr, (hst.blocks i _ e).2⟩
theorem HasG.var {P : Program} {c : Cx} (hst : St c) {g : Nat} {cs : Array Value} (H : HasG c.h g cs) {nm : String} (hn : P.globalNamed nm = some g) : c.w.var? P nm = some cs := by
 obtain ⟨ty, fr, e⟩ := H.world hst
 simp only [World.var?, hn, Qqx, e]
theorem HasG.kin {c c' : Cx} (hev : Ev c c') {g : Nat} {cs : Array Value} (H : HasG c.h g cs) : HasG c'.h g cs := by
 obtain ⟨i, ty, fr, e⟩ := H
 obtain ⟨b', hb, hk⟩ := hev.kin i _ e
 simp only [Kin] at hk
 obtain ⟨rfl, _⟩ := hk
 exact ⟨i, ty, fr, hb⟩
structure GV where
 g : Nat
 cs : Array Value
 ty : TypeId
 fr : Nat × Nat
def GV.blk (x : GV) : AB := .glob x.g x.cs x.ty x.fr
def Qc6 (W : World) (gs : List GV) : Cx := ⟨fun id => (gs[id]?).map (·.g), gs.map GV.blk, W⟩
theorem ZX {W : World} {gs : List GV} {id : Nat} {b : AB} (h : (Qc6 W gs).h[id]? = some b) : ∃ x, gs[id]? = some x ∧ b = x.blk ∧ (Qc6 W gs).ρ id = some x.g := by
 simp only [Qc6, List.getElem?_map, Option.map_eq_some_iff] at h ⊢
 obtain ⟨x, hx, rfl⟩ := h
 exact ⟨x, hx, rfl, x, hx, rfl⟩
theorem QkM {l : List Nat} (hn : l.Nodup) {i j a : Nat} (hi : l[i]? = some a) (hj : l[j]? = some a) : i = j := by
 have hp := List.pairwise_iff_getElem.1 hn
 obtain ⟨li, ei⟩ := List.getElem?_eq_some_iff.1 hi
 obtain ⟨lj, ej⟩ := List.getElem?_eq_some_iff.1 hj
 rcases Nat.lt_trichotomy i j with h | h | h
 ·exact absurd (ei.trans ej.symm) (hp i j li lj h)
 ·exact h
 ·exact absurd (ej.trans ei.symm) (hp j i lj li h)
theorem Qmr {W : World} {gs : List GV} (hw : ∀ x ∈ gs, W.heap[x.g]? = some (.cells x.cs x.ty x.fr)) (hn : (gs.map (·.g)).Nodup) : St (Qc6 W gs) := by
 refine ⟨fun id b h => ?_, fun i j a b B hi hj _ _ hρi hρj => ?_⟩
 ·obtain ⟨x, hx, rfl, hρ⟩ := ZX h
  exact ⟨hρ, hw x (List.mem_of_getElem? hx)⟩
 ·obtain ⟨x, hx, rfl, hρ⟩ := ZX hi
  obtain ⟨y, hy, rfl, hρ'⟩ := ZX hj
  have e : x.g = y.g := (Option.some.inj (hρ.symm.trans hρi)).trans (Option.some.inj (hρ'.symm.trans hρj)).symm
  have e1 : (gs.map (·.g))[i]? = some x.g := by rw [List.getElem?_map, hx]; rfl
  have e2 : (gs.map (·.g))[j]? = some x.g := by rw [List.getElem?_map, hy, e]; rfl
  exact QkM hn e1 e2
theorem Qgn {W : World} {gs : List GV} {c : Cx} (hw : ∀ x ∈ gs, W.heap[x.g]? = some (.cells x.cs x.ty x.fr)) (hst : St c) (h : Ev (Qc6 W gs) c) : Go.RowKit.Below W.heap.size W c.w := by
 refine ⟨h.os, h.tape, h.output, h.size, fun k hk => ?_⟩
 by_cases ho : (Qc6 W gs).owns k
 ·obtain ⟨id, b, hb, _, hρ⟩ := ho
  obtain ⟨x, hx, rfl, hρ'⟩ := ZX hb
  obtain rfl := Option.some.inj (hρ.symm.trans hρ')
  obtain ⟨b', hb', hk'⟩ := h.kin id _ hb
  simp only [GV.blk, Kin] at hk'
  obtain ⟨rfl, _⟩ := hk'
  rw [(hst.blocks id _ hb').2, hw x (List.mem_of_getElem? hx)]
 ·exact h.frame k hk ho
theorem Qkh {W : World} {gs : List GV} {a : AV} {u : Value} (h : Rel (base0 W) a u) : Rel (Qc6 W gs) a u := by
 have hp : ∀ {B o : Nat} {u : Value}, (base0 W).cellP B o u → (Qc6 W gs).cellP B o u := fun {B o u} h => ⟨h.1, h.2.1, fun id b hb hl hρ => .inr (by
  obtain ⟨x, _, rfl, _⟩ := ZX hb
  exact ⟨_, _, _, _, rfl⟩)⟩
 induction h with
 | v x => exact .v x
 | junk x => exact .junk x
 | agg l cs hl h ih => exact .agg l cs hl ih
 | tup l cs hl h ih => exact .tup l cs hl ih
 | slnil s own ht => exact .slnil s own fun b hb => absurd (ht b hb).1 (by simp [base0])
 | slzero s own ba ht => exact .slzero s own ba fun b hb => absurd (ht b hb).1 (by simp [base0])
 | sl s xs own B o cap f hs hcap hmax hc hr ht ih => exact .sl s xs own B o cap f hs hcap hmax (fun j a hj => ⟨hp (hc j a hj).1, (hc j a hj).2⟩) ih fun b hb => absurd (ht b hb).1.1 (by simp [base0])
 | pin s xs k off B o f hs hc hr ih => exact .pin s xs k off B o f hs (fun j a hj => ⟨hp (hc j a hj).1, (hc j a hj).2⟩) ih
 | ptr id k off x hid => exact absurd hid (by simp [base0])
 | arr id lo len x hid => exact absurd hid (by simp [base0])
 | row id lo len cap x hid => exact absurd hid (by simp [base0])
 | mp id x hid => exact absurd hid (by simp [base0])
 | fn f first cap vs ws h1 h2 hv hw ihv ihw => exact .fn f first cap vs ws h1 h2 ihv ihw
 | ifc t a u h ih => exact .ifc t a u ih
 | spt s xs own p n k h ih => exact .spt s xs own p n k ih
theorem QeF {W : World} {gs : List GV} {asx : List AV} {args : Array Value} (h : RelL (base0 W) asx args) : RelL (Qc6 W gs) asx args := ⟨h.1, fun j a u e1 e2 => Qkh (h.2 j a u e1 e2)⟩
theorem QeQ {P : Program} {f : FuncId} {asx : List AV} {W : World} {args : Array Value} {gs : List GV} (hw : ∀ x ∈ gs, W.heap[x.g]? = some (.cells x.cs x.ty x.fr)) (hn : (gs.map (·.g)).Nodup)
  (hc : Q4 P f asx (gs.map GV.blk) fun o h' => o = .ret (.v (.bool true)) ∧ h' = gs.map GV.blk) (hr : RelL (Qc6 W gs) asx args) :
  Calls P f args W fun e W' => e = .returned (.bool true) ∧ Go.RowKit.Below W.heap.size W W' := by
 refine callsIn_wide.1 ((hc.2 Fence.wide 0 (Qc6 W gs) args WF.wide (Qmr hw hn) rfl hr).mono ?_)
 rintro e w' ⟨o, c', ⟨rfl, hh⟩, hev, hst, rfl, hend⟩
 obtain ⟨x, rfl, hx⟩ := hend
 cases hx
 exact ⟨rfl, Qgn hw hst hev⟩
theorem Qi9 {P : Program} {W : World} {l : List (String × DataW Unit)} (h : laidMetH P l W) {x : String × DataW Unit} (hf : ((l.filter fun x => x.2.handleName?.isNone).filter fun y => y.1 == x.1) = [x]) : laidMet P [x] W := by
 have := (laidMetH_iff.1 h).1.filter fun y => y.1 == x.1
 rwa [hf] at this
theorem Qlv {P : Program} {W : World} {nm : String} {g : Nat} {cs : Array Value} (hn : P.globalNamed nm = some g) (h : W.var? P nm = some cs) : ∃ ty fr, W.heap[g]? = some (.cells cs ty fr) := by
 simp only [World.var?, hn, Qqx] at h
 split at h
 ·rename_i cs' ty fr e
  cases h
  exact ⟨ty, fr, e⟩
 ·cases h
theorem Qi5 {P : Program} {W : World} {nm : String} {k : IntKind} {zs : List Int} {g : Nat} {t e : TypeId} {n : Nat}
  (hg : P.globalNamed nm = some g) (hty : (P.globals[g]?).map (·.type) = some t) (ht : P.underlying t = some (.array n e)) (he : P.underlying e = some (.int k)) (hce : P.cellsOf e = 1) (hct : P.cellsOf t = n)
  (h : laidMet P [(nm, Lib.tabData k zs)] W) : ∃ ty fr, W.heap[g]? = some (.cells (zs.map fun z => Value.int k z).toArray ty fr) :=
 Qlv hg (Lib.tabIs_of_head hg hty ht he hce hct h)
end Go.Proofs.YtniljpjjnmkoaaaGreatDoor.Ab
set_option maxRecDepth 4000
namespace Go.Proofs.YtniljpjjnmkoaaaGreatDoor.Ab
open Go.Proofs
theorem Qcq (x : Int) (h0 : 0 ≤ x) (h1 : x ≤ 12) : Pure Tryz.prog 148 [.v (.int .u64 x)] (.i (Lib.bitLen x.toNat : Nat)) := by
 refine Qix (vs := [.int .u64 x]) Tryz.call148 fun w => ?_
 refine (Tryz.bits_Len x w h0 (by omega)).mono ?_
 rintro e w' ⟨rfl, rfl⟩
 exact ⟨_, rfl, Go.RowKit.Below.refl _ _, fun c' => .v _⟩
theorem Qox (x : Int) (h0 : 0 ≤ x) (h1 : x ≤ 12) : pv Tryz.prog (convert 3 176 (.int .i64 x)) = some (.int .u64 x) := by
 rw [QlC Tryz.prog 3 176 (ts := .int .i64) (kd := .u64) (by kernel_rfl) (by kernel_rfl)]
 have : IntKind.u64.wrap x = x := by simp [IntKind.wrap, IntKind.bits, IntKind.signed]; omega
 rw [this]
theorem QmR (l : List G) (hb : l.length ≤ 12) (hn : ∀ g ∈ l, ndsL g.args ≤ 1000000) (k : Int) (h : AH) (id : Nat) (hid : id < h.length) :
  Q4 Tryz.prog 147 [.arr id 0 l.length, .i 0, .i l.length, .i k, .fn (.func 52) [] []] (hs h id (.cells 45 2 (vs G.atom l))) fun o h' =>
   o = .ret (.tup []) ∧ h' = hs h id (.cells 45 2 (vs G.atom (Yq cmpG l))) := by
 have c1 := Qd6 l hb hn h id hid
 have w1 : IntKind.i64.wrap (l.length : Int) = (l.length : Int) := Xp (by omega)
 have h12 : (l.length : Int) ≤ 12 := by omega
 refine Qe Tryz.func147 rfl Tryz.call147 Tryz.ntmps147 (congrArg Array.toList Tryz.results147) (by simp) ?_
 repeat (first | (((with_reducible refine Qa fun K E hK hE => ?_)); simp -implicitDefEqProofs only [XI, XT, Qh, OpW, aop, AS.ev, XH, Qar, Nat.reduceLT]) | (with_reducible refine Qi ?_) | ((with_reducible refine hK _ ?_); clear hK))
 obtain ⟨I, hI⟩ : ∃ I : Nat → AS → Prop, I = fun m' s => m' = 0 ∧ s.tm 0 = .arr id 0 l.length ∧ s.tm 1 = .i 0 ∧ s.tm 2 = .i l.length ∧ s.tm 3 = .i k ∧ s.tm 4 = .fn (.func 52) [] [] ∧ s.h = hs h id (.cells 45 2 (vs G.atom l)) := ⟨_, rfl⟩; refine QJ I ?_ (m := 0) ?_
 ·intro m' s hs; rw [hI] at hs; obtain ⟨tm, hp⟩ := s; dsimp only at hs; obtain ⟨rfl, t0, t1, t2, t3, t4, rfl⟩ := hs
  repeat (first | ((first | (with_reducible (first | refine Qa fun K E hK hE => ?_ | refine FunW.ret (FunW.call c1) ?_))); simp -implicitDefEqProofs only [Qg, Qh, OpW, QI, aop, AS.ev, ↓reduceIte, aBin, Int.sub_zero, t0, t1, t2, t4, w1, h12, seval]) | (with_reducible (first | refine Qc fun K hK => ?_ | refine Qi ?_ | refine Qj ?_ | refine Qo ?_ | refine Qs ?_)) | ((with_reducible refine hK _ ?_); clear hK) | (refine Qf rfl ?_; simp only [↓reduceIte]))
  exact ⟨.tup [], rfl, .inr ⟨rfl, rfl⟩⟩
 ·rw [hI]
  exact ⟨rfl, rfl, rfl, rfl, rfl, rfl, rfl⟩
theorem Qkn (l : List G) (hb : l.length ≤ 12) (hn : ∀ g ∈ l, ndsL g.args ≤ 1000000) (h : AH) (id : Nat) (hid : id < h.length) :
  Q4 Tryz.prog 125 [.arr id 0 l.length, .fn (.func 52) [] []] (hs h id (.cells 45 2 (vs G.atom l))) fun o h' =>
   o = .ret (.tup []) ∧ h' = hs h id (.cells 45 2 (vs G.atom (Yq cmpG l))) := by
 have g1 := fun x => Qdn hid x
 have cb := Qcq l.length (by omega) (by omega)
 have cv := Qox l.length (by omega) (by omega)
 have c1 := fun k => QmR l hb hn k h id hid
 refine Qe Tryz.func125 rfl Tryz.call125 Tryz.ntmps125 (congrArg Array.toList Tryz.results125) (by simp) ?_
 repeat (first | ((first | (with_reducible (first | refine Qa fun K E hK hE => ?_ | refine Qm fun K E hK hE => ?_ | refine Qq cb ?_ | refine FunW.ret (FunW.call (c1 _)) ?_))); simp -implicitDefEqProofs only [Qg, Qh, OpW, QI, aop, undef, AS.ev, Qy, ↓reduceIte, aLen, goInt, un30, g1, cv, seval]) | ((with_reducible refine hK _ ?_); clear hK))
 exact ⟨.tup [], rfl, .inr ⟨rfl, rfl⟩⟩
theorem Qfu : Pure Tryz.prog 157 [.sl 2 [] none, .i 0, .i 0, .fn (.func 52) [] []] (.tup []) := by
 intro h
 have h1 : ¬ ((1 : Int) < 0) := by decide
 refine Qe Tryz.func157 rfl Tryz.call157 Tryz.ntmps157 (congrArg Array.toList Tryz.results157) (by simp) ?_
 repeat (first | (((with_reducible refine Qa fun K E hK hE => ?_)); simp -implicitDefEqProofs only [Qg, Qh, OpW, aop, undef, AS.ev, Qy, ↓reduceIte, Nat.reduceLT, aBin]) | (with_reducible refine Qi ?_) | ((with_reducible refine hK _ ?_); clear hK))
 obtain ⟨I, hI⟩ : ∃ I : Nat → AS → Prop, I = fun m' s => m' = 0 ∧ s.tm 8 = .i 1 ∧ s.tm 2 = .i 0 ∧ s.h = h := ⟨_, rfl⟩; refine QJ I ?_ (m := 0) ?_
 ·intro m' s hs; rw [hI] at hs; obtain ⟨tm, hp⟩ := s; dsimp only at hs; obtain ⟨rfl, t8, t2, rfl⟩ := hs
  repeat (first | (((with_reducible refine Qa fun K E hK hE => ?_)); simp -implicitDefEqProofs only [Qg, Qh, OpW, aop, AS.ev, ↓reduceIte, aBin, t8, t2, h1, seval]) | (with_reducible (first | refine Qc fun K hK => ?_ | refine QB ?_ | refine Qw ?_ | refine Qv ?_)) | ((with_reducible refine hK _ ?_); clear hK) | (refine Qf rfl ?_; simp only [↓reduceIte, Qqw]))
  exact ⟨.tup [], rfl, .inr ⟨rfl, rfl⟩⟩
 ·rw [hI]
  exact ⟨rfl, rfl, rfl, rfl⟩
theorem Qom (k : Int) : Pure Tryz.prog 147 [.sl 2 [] none, .i 0, .i 0, .i k, .fn (.func 52) [] []] (.tup []) := by
 intro h
 have c1 := Qfu
 have h12 : (0 : Int) ≤ 12 := by decide
 have w1 : IntKind.i64.wrap 0 = 0 := by decide
 refine Qe Tryz.func147 rfl Tryz.call147 Tryz.ntmps147 (congrArg Array.toList Tryz.results147) (by simp) ?_
 repeat (first | (((with_reducible refine Qa fun K E hK hE => ?_)); simp -implicitDefEqProofs only [XI, XT, Qh, OpW, aop, AS.ev, XH, Qar, Nat.reduceLT]) | (with_reducible refine Qi ?_) | ((with_reducible refine hK _ ?_); clear hK))
 obtain ⟨I, hI⟩ : ∃ I : Nat → AS → Prop, I = fun m' s => m' = 0 ∧ s.tm 0 = .sl 2 [] none ∧ s.tm 1 = .i 0 ∧ s.tm 2 = .i 0 ∧ s.tm 3 = .i k ∧ s.tm 4 = .fn (.func 52) [] [] ∧ s.h = h := ⟨_, rfl⟩; refine QJ I ?_ (m := 0) ?_
 ·intro m' s hs; rw [hI] at hs; obtain ⟨tm, hp⟩ := s; dsimp only at hs; obtain ⟨rfl, t0, t1, t2, t3, t4, rfl⟩ := hs
  repeat (first | ((first | (with_reducible (first | refine Qa fun K E hK hE => ?_ | refine Qq c1 ?_))); simp -implicitDefEqProofs only [Qg, Qh, OpW, QI, aop, AS.ev, ↓reduceIte, aBin, Int.sub_zero, t0, t1, t2, t4, w1, h12, seval]) | (with_reducible (first | refine Qc fun K hK => ?_ | refine Qi ?_ | refine Qj ?_ | refine Qo ?_ | refine Qs ?_)) | ((with_reducible refine hK _ ?_); clear hK) | (refine Qf rfl ?_; simp only [↓reduceIte]))
  exact ⟨.tup [], rfl, .inr ⟨rfl, rfl⟩⟩
 ·rw [hI]
  exact ⟨rfl, rfl, rfl, rfl, rfl, rfl, rfl⟩
theorem QmE : Pure Tryz.prog 125 [.sl 2 [] none, .fn (.func 52) [] []] (.tup []) := by
 intro h
 have cb := Qcq 0 (by omega) (by omega)
 have cv := Qox 0 (by omega) (by omega)
 have c1 := fun k => Qom k
 refine Qe Tryz.func125 rfl Tryz.call125 Tryz.ntmps125 (congrArg Array.toList Tryz.results125) (by simp) ?_
 repeat (first | ((first | (with_reducible (first | refine Qa fun K E hK hE => ?_ | refine Qm fun K E hK hE => ?_ | refine Qq cb ?_ | refine Qq (c1 _) ?_))); simp -implicitDefEqProofs only [Qg, Qh, OpW, QI, aop, undef, AS.ev, Qy, ↓reduceIte, aLen, goInt, un30, cv, seval]) | ((with_reducible refine hK _ ?_); clear hK))
 exact ⟨.tup [], rfl, .inr ⟨rfl, rfl⟩⟩
end Go.Proofs.YtniljpjjnmkoaaaGreatDoor.Ab
namespace Go.Proofs.YtniljpjjnmkoaaaGreatDoor.Ab
def QjF : Nat → List Int → List (List Int)
 | 0, _ => [[]]
 | k + 1, l => (List.range l.length).flatMap fun i => (QjF k (l.eraseIdx i)).map fun t => l.getD i 0 :: t
def ords (l : List Int) : List (List Int) := QjF l.length l
theorem Qbn {l : List Int} {i : Nat} (h : i < l.length) : (l.getD i 0 :: l.eraseIdx i).Perm l := by
 have e : l.getD i 0 = l[i] := by rw [List.getD_eq_getElem?_getD, List.getElem?_eq_getElem h]; rfl
 rw [e, List.eraseIdx_eq_take_drop_succ]
 refine (List.perm_middle.symm).trans ?_
 rw [List.getElem_cons_drop, List.take_append_drop]
theorem Qdp : ∀ (k : Nat) (l p : List Int), l.length = k → (p ∈ QjF k l ↔ p.Perm l)
 | 0, l, p, hl => by
  have : l = [] := List.eq_nil_of_length_eq_zero hl
  subst this
  simp [QjF]
 | k + 1, l, p, hl => by
  simp only [QjF, List.mem_flatMap, List.mem_range, List.mem_map]
  constructor
  ·rintro ⟨i, hi, t, ht, rfl⟩
   have hlen : (l.eraseIdx i).length = k := by rw [List.length_eraseIdx_of_lt hi]; omega
   exact (((Qdp k _ t hlen).1 ht).cons _).trans (Qbn hi)
  ·intro hp
   cases p with
   | nil => have := hp.length_eq; simp at this; omega
   | cons a t =>
    obtain ⟨i, hi, e⟩ := List.getElem_of_mem (hp.mem_iff.1 (List.mem_cons_self ..))
    have hlen : (l.eraseIdx i).length = k := by rw [List.length_eraseIdx_of_lt hi]; omega
    have e2 : l.getD i 0 = a := by rw [List.getD_eq_getElem?_getD, List.getElem?_eq_getElem hi, e]; rfl
    refine ⟨i, hi, t, (Qdp k _ t hlen).2 ?_, by rw [e2]⟩
    have := hp.trans (Qbn hi).symm
    rw [e2] at this
    exact (List.perm_cons a).1 this
theorem Qat {l p : List Int} : p ∈ ords l ↔ p.Perm l := Qdp _ _ _ rfl
def Qab (n : Int) (c : Ct) (e : List Int) (E : List (List Int)) : Ct := YY cmpA (c.ans (toF n e)) (E.map fun p => c.ans (toF n p))
theorem QeN (n : Int) (c : Ct) (e : List Int) (E : List (List Int)) : ∃ p ∈ e :: E, Qab n c e E = c.ans (toF n p) := by
 have h := Zl cmpA (E.map fun p => c.ans (toF n p)) (c.ans (toF n e))
 rcases List.mem_cons.1 h with h | h
 ·exact ⟨e, by simp, h⟩
 ·obtain ⟨p, hp, h⟩ := List.mem_map.1 h
  exact ⟨p, by simp [hp], h.symm⟩
theorem QfO {n : Int} {c : Ct} {e : List Int} {E : List (List Int)} {y : Ct} : y ∈ c.ans (toF n e) :: E.map (fun p => c.ans (toF n p)) ↔ ∃ p ∈ e :: E, y = c.ans (toF n p) := by
 rw [show c.ans (toF n e) :: E.map (fun p => c.ans (toF n p)) = (e :: E).map fun p => c.ans (toF n p) from rfl, List.mem_map]
 exact ⟨fun ⟨p, h1, h2⟩ => ⟨p, h1, h2.symm⟩, fun ⟨p, h1, h2⟩ => ⟨p, h1, h2.symm⟩⟩
theorem Qd9 {n : Int} {c c' : Ct} {h : Int → Int} {L L' e e' : List Int} {E E' : List (List Int)} (hv : c'.vals = maps h c.vals) (hs : c'.store.Perm (c.store.map (G.map h)))
  (hi : ∀ v ∈ c.vars, ∀ w ∈ c.vars, h v = h w → v = w) (hf : ∀ v ∈ c.vars, v < n → h v = v) (hb : ∀ v ∈ c.vars, n ≤ v → n ≤ h v)
  (hL : ∀ v, v ∈ L ↔ v ∈ c.vars ∧ n ≤ v) (hLL : (L.map h).Perm L') (hE : ∀ p, p ∈ e :: E ↔ p.Perm L) (hE' : ∀ p, p ∈ e' :: E' ↔ p.Perm L')
  (he : ∀ p, p.Perm L → ∀ a ∈ c.store.map (G.map (toF n p)), ∀ b ∈ c.store.map (G.map (toF n p)), cmpG a b = 0 → a = b) :
  cmpA (Qab n c e E) (Qab n c' e' E') = 0 := by
 refine Qc0 ordA (fun y hy => ?_) fun y hy => ?_
 ·obtain ⟨p, h1, rfl⟩ := QfO.1 hy
  have hp := (hE p).1 h1
  refine ⟨_, QfO.2 ⟨p.map h, (hE' _).2 ((hp.map h).trans hLL), rfl⟩, ?_⟩
  rw [Qdq hv hs hi hf hb hL hp (he p hp), ordA.refl]; exact Int.le_refl 0
 ·obtain ⟨q, h1, rfl⟩ := QfO.1 hy
  obtain ⟨p, hp, rfl⟩ := Qjy hLL ((hE' q).1 h1)
  refine ⟨_, QfO.2 ⟨p, (hE p).2 hp, rfl⟩, ?_⟩
  rw [Qdq hv hs hi hf hb hL hp (he p hp), ordA.refl]; exact Int.le_refl 0
end Go.Proofs.YtniljpjjnmkoaaaGreatDoor.Ab
namespace Go.Proofs.YtniljpjjnmkoaaaGreatDoor.Ab
open Go.Proofs
mutual
def T.okC : T → Prop
 | .mk k i n l => ((k = 0 ∨ k = 1) ∧ n.size = 0 ∧ l = []) ∨ (k = 2 ∧ i = 0 ∧ oksC l)
def oksC : List T → Prop
 | [] => True
 | t :: l => t.okC ∧ oksC l
end
theorem Qg3 : ∀ {l m : List UInt8}, cmpB l m = 0 → l = m
 | [], [], _ => rfl
 | [], _ :: _, h => by simp [cmpB] at h
 | _ :: _, [], h => by simp [cmpB] at h
 | a :: l, b :: m, h => by
  rw [cmpB] at h
  obtain ⟨h1, h2⟩ := Za.1 h
  have := QaE.1 h1
  rw [Qg3 h2, UInt8.toNat_inj.1 (by omega : a.toNat = b.toNat)]
theorem Qgj {a b : ByteArray} (h : cmpS a b = 0) : a = b := by
 rw [Qek] at h
 have := Qg3 h
 rw [Lib.toList_data, Lib.toList_data] at this
 exact ByteArray.ext (Array.toList_inj.1 this)
theorem Qgd {a b : ByteArray} (h : a.size = 0) (k : b.size = 0) : a = b := by
 refine ByteArray.ext ?_
 have h' : a.data.size = 0 := h
 have k' : b.data.size = 0 := k
 rw [Array.eq_empty_of_size_eq_zero h', Array.eq_empty_of_size_eq_zero k']
mutual
theorem Qgt : ∀ {a b : T}, a.okC → b.okC → cmpT a b = 0 → a = b
 | .mk k i n l, .mk k' i' n' l', ha, hb, h => by
  rw [Qau] at h
  obtain ⟨h1, h2⟩ := Za.1 h
  have h1 := QaE.1 h1
  have ih := @QbE l l'
  rw [T.okC] at ha hb
  have hk : k = k' := by
   rcases ha with ⟨ha | ha, _⟩ | ⟨ha, _⟩ <;> rcases hb with ⟨hb | hb, _⟩ | ⟨hb, _⟩ <;> subst ha <;> subst hb <;> simp [Q5] at h1 <;> rfl
  subst hk
  rcases ha with ⟨hk, ha1, rfl⟩ | ⟨rfl, rfl, ha3⟩
  ·rcases hb with ⟨_, hb1, rfl⟩ | ⟨hk2, _⟩
   ·have hr : Q5 k = 0 ∨ Q5 k = 1 := by rcases hk with rfl | rfl <;> simp [Q5]
    rw [QlB, if_pos hr] at h2
    rw [QaE.1 h2, Qgd ha1 hb1]
   ·omega
  ·rcases hb with ⟨hk2, _⟩ | ⟨_, rfl, hb3⟩
   ·omega
   ·rw [show Q5 2 = 2 from rfl, QlB, if_neg (by decide), if_pos rfl] at h2
    obtain ⟨h3, h4⟩ := Za.1 h2
    obtain ⟨h5, h6⟩ := Za.1 h4
    rw [Qgj h5, ih ha3 hb3 h6]
theorem QbE : ∀ {l m : List T}, oksC l → oksC m → cmpL l m = 0 → l = m
 | [], [], _, _, _ => rfl
 | [], _ :: _, _, _, h => by simp [cmpL] at h
 | _ :: _, [], _, _, h => by simp [cmpL] at h
 | a :: l, b :: m, ha, hb, h => by
  rw [Qaq] at h
  obtain ⟨h1, h2⟩ := Za.1 h
  rw [oksC] at ha hb
  rw [Qgt ha.1 hb.1 h1, QbE ha.2 hb.2 h2]
end
theorem QfW {a b : G} (ha : oksC a.args) (hb : oksC b.args) (ho : a.op = b.op) (h : cmpG a b = 0) : a = b := by
 obtain ⟨h1, h2⟩ := Za.1 h
 obtain ⟨h3, _⟩ := Za.1 h1
 cases a; cases b
 simp only at *
 rw [ho, Qgj h3, QbE ha hb h2]
mutual
theorem QnZ (f : Int → Int) : ∀ {t : T}, t.okC → (t.map f).okC
 | .mk k i n l, h => by
  have ih := @QaB f l
  rw [T.okC] at h
  rw [T.map]
  rcases h with ⟨rfl | rfl, h2, rfl⟩ | ⟨rfl, h2, h3⟩
  ·rw [if_neg (by decide), if_neg (by decide), T.okC]; exact .inl ⟨.inl rfl, h2, rfl⟩
  ·rw [if_pos rfl, T.okC]; exact .inl ⟨.inr rfl, h2, rfl⟩
  ·rw [if_neg (by decide), if_pos rfl, T.okC]; exact .inr ⟨rfl, h2, ih h3⟩
theorem QaB (f : Int → Int) : ∀ {l : List T}, oksC l → oksC (maps f l)
 | [], _ => by simp [maps, oksC]
 | t :: l, h => by
  rw [oksC] at h
  rw [maps, oksC]
  exact ⟨QnZ f h.1, QaB f h.2⟩
end
theorem QjC {l : List G} (h : ∀ g ∈ l, oksC g.args ∧ g.op = 0) (f : Int → Int) : ∀ a ∈ l.map (G.map f), ∀ b ∈ l.map (G.map f), cmpG a b = 0 → a = b := by
 intro a ha b hb hz
 obtain ⟨x, hx, rfl⟩ := List.mem_map.1 ha
 obtain ⟨y, hy, rfl⟩ := List.mem_map.1 hb
 exact QfW (QaB f (h x hx).1) (QaB f (h y hy).1) ((h x hx).2.trans (h y hy).2.symm) hz
end Go.Proofs.YtniljpjjnmkoaaaGreatDoor.Ab
namespace Go.Proofs.YtniljpjjnmkoaaaGreatDoor.Ab
def toG (n : Int) (L σ : List Int) (v : Int) : Int := if v ∈ L then n + σ.getD (plc L v) 0 else v
def nums (k : Nat) : List Int := (List.range k).map Int.ofNat
theorem QaI {k : Nat} {x : Int} : x ∈ nums k ↔ ∃ j, j < k ∧ x = (j : Nat) := by
 simp only [nums, List.mem_map, List.mem_range]
 exact ⟨fun ⟨j, h, e⟩ => ⟨j, h, e.symm⟩, fun ⟨j, h, e⟩ => ⟨j, h, e.symm⟩⟩
theorem QeO (k : Nat) : (nums k).Nodup := by
 refine List.Pairwise.map _ (fun a b h => ?_) (List.nodup_range (n := k))
 intro e; exact h (Int.ofNat.inj e)
theorem nums_length (k : Nat) : (nums k).length = k := by simp [nums]
theorem getD_lt {l : List Int} {i : Nat} (h : i < l.length) : l.getD i 0 = l[i] := by rw [List.getD_eq_getElem?_getD, List.getElem?_eq_getElem h]; rfl
theorem Qmz {n : Int} {L p : List Int} (hL : L.Nodup) (hp : p.Perm L) : ∃ σ : List Int, σ.Perm (nums L.length) ∧ ∀ v, toG n L σ v = toF n p v := by
 have hpn : p.Nodup := hp.nodup_iff.2 hL
 have hlen : p.length = L.length := hp.length_eq
 refine ⟨L.map fun v => ((plc p v : Nat) : Int), ?_, fun v => ?_⟩
 ·refine (List.perm_ext_iff_of_nodup ?_ (QeO _)).2 fun x => ?_
  ·refine (List.pairwise_map.2 (hL.imp_of_mem fun {a b} ha hb hab e => hab ?_))
   have e : plc p a = plc p b := by omega
   have h1 := Qah (hp.mem_iff.2 ha)
   have h2 := Qah (hp.mem_iff.2 hb)
   rw [← h1, ← h2]
   simp only [e]
  ·rw [List.mem_map, QaI]
   constructor
   ·rintro ⟨v, hv, rfl⟩
    exact ⟨plc p v, by rw [← hlen]; exact Qdc (hp.mem_iff.2 hv), rfl⟩
   ·rintro ⟨j, hj, rfl⟩
    have hj' : j < p.length := by omega
    exact ⟨p[j], hp.mem_iff.1 (List.getElem_mem hj'), by rw [QbR hpn hj']⟩
 ·unfold toG toF
  by_cases hv : v ∈ L
  ·rw [if_pos hv, if_pos (hp.mem_iff.2 hv), getD_lt (by rw [List.length_map]; exact Qdc hv), List.getElem_map, Qah hv]
  ·rw [if_neg hv, if_neg (fun h => hv (hp.mem_iff.1 h))]
theorem QeV {n : Int} {L σ : List Int} (hL : L.Nodup) (hs : σ.Perm (nums L.length)) : ∃ p : List Int, p.Perm L ∧ ∀ v, toG n L σ v = toF n p v := by
 have hsn : σ.Nodup := hs.nodup_iff.2 (QeO _)
 have hlen : σ.length = L.length := hs.length_eq.trans (nums_length _)
 have hin : ∀ j, j < L.length → ((j : Nat) : Int) ∈ σ := fun j hj => hs.mem_iff.2 (QaI.2 ⟨j, hj, rfl⟩)
 have hpl : ∀ j, j < L.length → plc σ j < L.length := fun j hj => hlen ▸ Qdc (hin j hj)
 let p := (List.range L.length).map fun j => L.getD (plc σ ((j : Nat) : Int)) 0
 have hplen : p.length = L.length := by simp [p]
 have hget : ∀ j (h : j < L.length), p[j]'(by omega) = L[plc σ ((j : Nat) : Int)]'(hpl j h) := by
  intro j h
  simp only [p, List.getElem_map, List.getElem_range]
  exact getD_lt (hpl j h)
 have hpn : p.Nodup := by
  refine List.pairwise_map.2 ((List.nodup_range (n := L.length)).imp_of_mem fun {a b} ha hb hab e => hab ?_)
  have ha := List.mem_range.1 ha
  have hb := List.mem_range.1 hb
  rw [getD_lt (hpl a ha), getD_lt (hpl b hb)] at e
  have e2 : plc σ ((a : Nat) : Int) = plc σ ((b : Nat) : Int) := by
   have h1 := QbR hL (hpl a ha)
   have h2 := QbR hL (hpl b hb)
   rw [← h1, ← h2, e]
  have h3 := Qah (hin a ha)
  have h4 := Qah (hin b hb)
  have h5 : ((a : Nat) : Int) = b := by rw [← h3, ← h4]; simp only [e2]
  omega
 have hval : ∀ v, v ∈ L → ∃ j, ∃ h : j < L.length, σ.getD (plc L v) 0 = (j : Nat) ∧ p[j]'(by omega) = v := by
  intro v hv
  have h1 : plc L v < σ.length := by rw [hlen]; exact Qdc hv
  obtain ⟨j, hj, e⟩ := QaI.1 (hs.mem_iff.1 (List.getElem_mem h1))
  refine ⟨j, hj, by rw [getD_lt h1, e], ?_⟩
  rw [hget j hj]
  have h2 : plc σ ((j : Nat) : Int) = plc L v := by rw [← e]; exact QbR hsn h1
  simp only [h2]
  exact Qah hv
 have hperm : p.Perm L := by
  refine (List.perm_ext_iff_of_nodup hpn hL).2 fun v => ⟨fun hv => ?_, fun hv => ?_⟩
  ·obtain ⟨j, hj, rfl⟩ := List.getElem_of_mem hv
   rw [hget j (by omega)]
   exact List.getElem_mem _
  ·obtain ⟨j, hj, _, e⟩ := hval v hv
   rw [← e]; exact List.getElem_mem _
 refine ⟨p, hperm, fun v => ?_⟩
 unfold toG toF
 by_cases hv : v ∈ L
 ·rw [if_pos hv, if_pos (hperm.mem_iff.2 hv)]
  obtain ⟨j, hj, e1, e2⟩ := hval v hv
  rw [e1]
  have := QbR hpn (by omega : j < p.length)
  rw [e2] at this
  rw [this]
 ·rw [if_neg hv, if_neg (fun h => hv (hperm.mem_iff.1 h))]
end Go.Proofs.YtniljpjjnmkoaaaGreatDoor.Ab
set_option maxRecDepth 100000
namespace Go.Proofs.YtniljpjjnmkoaaaGreatDoor.Ab
def pivot (l : List Int) : Nat → Int
 | 0 => -1
 | i + 1 => if l.getD (i + 1) 0 < l.getD i 0 then pivot l i else (i : Nat)
def above (l : List Int) (x : Int) : Nat → Nat
 | 0 => 0
 | k + 1 => if l.getD (k + 1) 0 < x then above l x k else k + 1
def Qeb (l : List Int) : Option (List Int) :=
 let i := pivot l (l.length - 1)
 if i < 0 then none else
 let i := i.toNat
 let k := above l (l.getD i 0) (l.length - 1)
 let m := (l.set i (l.getD k 0)).set k (l.getD i 0)
 some (m.take (i + 1) ++ (m.drop (i + 1)).reverse)
def Xz : Nat → List Int → List (List Int)
 | 0, l => [l]
 | k + 1, l => l :: match Qeb l with
  | some m => Xz k m
  | none => []
theorem QoO : Xz 720 (nums 0) = ords (nums 0) := by decide +kernel
theorem Qo3 : Xz 720 (nums 1) = ords (nums 1) := by decide +kernel
theorem Qpc : Xz 720 (nums 2) = ords (nums 2) := by decide +kernel
theorem Qoq : Xz 720 (nums 3) = ords (nums 3) := by decide +kernel
theorem QoF : Xz 720 (nums 4) = ords (nums 4) := by decide +kernel
theorem QoK : Xz 720 (nums 5) = ords (nums 5) := by decide +kernel
theorem Qos : Xz 720 (nums 6) = ords (nums 6) := by decide +kernel
theorem QdF {n : Nat} (h : n ≤ 6) : Xz 720 (nums n) = ords (nums n) := by
 match n, h with
 | 0, _ => exact QoO
 | 1, _ => exact Qo3
 | 2, _ => exact Qpc
 | 3, _ => exact Qoq
 | 4, _ => exact QoF
 | 5, _ => exact QoK
 | 6, _ => exact Qos
end Go.Proofs.YtniljpjjnmkoaaaGreatDoor.Ab
namespace Go.Proofs.YtniljpjjnmkoaaaGreatDoor.Ab
theorem QgP (h : Int → Int) : ∀ l : List G, Qe1 (l.map (G.map h)) = (Qe1 l).map h
 | [] => rfl
 | g :: l => by
  have ih := QgP h l
  simp only [Qe1, QqH, List.flatMap_cons, List.map_append] at ih ⊢
  rw [ih]
  simp only [G.map, QaR]
theorem QjY {l m : List G} (hp : l.Perm m) {v : Int} : v ∈ Qe1 l ↔ v ∈ Qe1 m := by
 simp only [Qe1, List.mem_flatMap]
 exact ⟨fun ⟨g, h1, h2⟩ => ⟨g, hp.mem_iff.1 h1, h2⟩, fun ⟨g, h1, h2⟩ => ⟨g, hp.mem_iff.2 h1, h2⟩⟩
theorem Qcu {c c' : Ct} {h : Int → Int} (hv : c'.vals = maps h c.vals) (hs : c'.store.Perm (c.store.map (G.map h))) (v : Int) : v ∈ c'.vars ↔ ∃ w ∈ c.vars, h w = v := by
 simp only [Ct.vars, List.mem_append, hv, QaR, QjY hs, QgP, List.mem_map]
 constructor
 ·rintro (⟨w, h1, h2⟩ | ⟨w, h1, h2⟩)
  ·exact ⟨w, .inl h1, h2⟩
  ·exact ⟨w, .inr h1, h2⟩
 ·rintro ⟨w, h1 | h1, h2⟩
  ·exact .inl ⟨w, h1, h2⟩
  ·exact .inr ⟨w, h1, h2⟩
theorem QaX {n : Int} {c c' : Ct} {h : Int → Int} {L L' : List Int} (hv : c'.vals = maps h c.vals) (hs : c'.store.Perm (c.store.map (G.map h)))
  (hi : ∀ v ∈ c.vars, ∀ w ∈ c.vars, h v = h w → v = w) (hf : ∀ v ∈ c.vars, v < n → h v = v) (hb : ∀ v ∈ c.vars, n ≤ v → n ≤ h v)
  (hn : L.Nodup) (hn' : L'.Nodup) (hL : ∀ v, v ∈ L ↔ v ∈ c.vars ∧ n ≤ v) (hL' : ∀ v, v ∈ L' ↔ v ∈ c'.vars ∧ n ≤ v) : (L.map h).Perm L' := by
 refine (List.perm_ext_iff_of_nodup ?_ hn').2 fun v => ?_
 ·exact List.pairwise_map.2 (hn.imp_of_mem fun {a b} ha hb' hab e => hab (hi a ((hL a).1 ha).1 b ((hL b).1 hb').1 e))
 ·rw [hL', Qcu hv hs, List.mem_map]
  constructor
  ·rintro ⟨w, hw, rfl⟩
   obtain ⟨h1, h2⟩ := (hL w).1 hw
   exact ⟨⟨w, h1, rfl⟩, hb w h1 h2⟩
  ·rintro ⟨⟨w, hw, rfl⟩, h2⟩
   rcases Int.lt_or_le w n with q | q
   ·have := hf w hw q; omega
   ·exact ⟨w, (hL w).2 ⟨hw, q⟩, rfl⟩
theorem Qkl {n : Int} {c : Ct} {L p : List Int} (hL : ∀ v, v ∈ L ↔ v ∈ c.vars ∧ n ≤ v) (hp : p.Perm L) : (∀ v ∈ c.vars, ∀ w ∈ c.vars, toF n p v = toF n p w → v = w) ∧ (∀ v ∈ c.vars, v < n → toF n p v = v) ∧ ∀ v ∈ c.vars, n ≤ v → n ≤ toF n p v := by
 have hpv : ∀ v, v ∈ p ↔ v ∈ c.vars ∧ n ≤ v := fun v => hp.mem_iff.trans (hL v)
 have lo : ∀ v ∈ c.vars, ¬ v ∈ p → v < n := fun v h1 h2 => by
  rcases Int.lt_or_le v n with q | q
  ·exact q
  ·exact absurd ((hpv v).2 ⟨h1, q⟩) h2
 refine ⟨fun v hv w hw e => ?_, fun v hv hlt => ?_, fun v hv hge => ?_⟩
 ·unfold toF at e
  by_cases h1 : v ∈ p
  ·by_cases h2 : w ∈ p
   ·rw [if_pos h1, if_pos h2] at e
    have e2 : plc p v = plc p w := by omega
    rw [← Qah h1, ← Qah h2]
    simp only [e2]
   ·rw [if_pos h1, if_neg h2] at e
    have := lo w hw h2; omega
  ·by_cases h2 : w ∈ p
   ·rw [if_neg h1, if_pos h2] at e
    have := lo v hv h1; omega
   ·rw [if_neg h1, if_neg h2] at e; exact e
 ·rw [toF, if_neg]
  intro h
  have := ((hpv v).1 h).2; omega
 ·rw [toF, if_pos ((hpv v).2 ⟨hv, hge⟩)]; omega
theorem Qg7 {n : Int} {c c' : Ct} {L L' e e' : List Int} {E E' : List (List Int)} (hn : L.Nodup) (hn' : L'.Nodup)
  (hL : ∀ v, v ∈ L ↔ v ∈ c.vars ∧ n ≤ v) (hL' : ∀ v, v ∈ L' ↔ v ∈ c'.vars ∧ n ≤ v) (hE : ∀ p, p ∈ e :: E ↔ p.Perm L) (hE' : ∀ p, p ∈ e' :: E' ↔ p.Perm L')
  (ho : ∀ g ∈ c.store, oksC g.args ∧ g.op = 0) (hv : c'.vals = (Qab n c e E).vals) (hs : c'.store.Perm (Qab n c e E).store) :
  cmpA (Qab n c e E) (Qab n c' e' E') = 0 := by
 obtain ⟨p, h1, h2⟩ := QeN n c e E
 have hp := (hE p).1 h1
 obtain ⟨i1, i2, i3⟩ := Qkl hL hp
 rw [h2] at hv hs
 have hs' : c'.store.Perm (c.store.map (G.map (toF n p))) := hs.trans (XJ _ _)
 exact Qd9 hv hs' i1 i2 i3 hL (QaX hv hs' i1 i2 i3 hn hn' hL hL') hE hE' fun q _ => QjC ho (toF n q)
end Go.Proofs.YtniljpjjnmkoaaaGreatDoor.Ab
namespace Go.Proofs.YtniljpjjnmkoaaaGreatDoor.Ab
mutual
def T.ren (m : Int → Option Int) : T → T
 | .mk k i n l => if k = 1 then (match m i with | some j => .mk 1 j ⟨#[]⟩ [] | none => .mk k i n l) else if k = 2 then .mk k i n (rens m l) else .mk k i n l
def rens (m : Int → Option Int) : List T → List T
 | [] => []
 | t :: l => t.ren m :: rens m l
end
mutual
theorem T.Qqm (m : Int → Option Int) : ∀ {t : T}, t.okC → t.ren m = t.map fun v => (m v).getD v
 | .mk k i n l, h => by
  have ih := @Qe9 m l
  rw [T.okC] at h
  rw [T.ren, T.map]
  by_cases h1 : k = 1
  ·subst h1
   rw [if_pos rfl, if_pos rfl]
   rcases h with ⟨_, h2, rfl⟩ | ⟨h2, _⟩
   ·have e : n = ⟨#[]⟩ := Qgd h2 rfl
    subst e
    cases m i <;> rfl
   ·omega
  ·rw [if_neg h1, if_neg h1]
   by_cases h2 : k = 2
   ·rw [if_pos h2, if_pos h2]
    rcases h with ⟨h3 | h3, _⟩ | ⟨_, _, h3⟩
    ·omega
    ·omega
    ·rw [ih h3]
   ·rw [if_neg h2, if_neg h2]
theorem Qe9 (m : Int → Option Int) : ∀ {l : List T}, oksC l → rens m l = maps (fun v => (m v).getD v) l
 | [], _ => rfl
 | t :: l, h => by
  rw [oksC] at h
  rw [rens, maps, T.Qqm m h.1, Qe9 m h.2]
end
theorem QdU (m : Int → Option Int) : ∀ l : List T, (rens m l).length = l.length
 | [] => rfl
 | t :: l => by rw [rens, List.length_cons, List.length_cons, QdU m l]
theorem QdD (m : Int → Option Int) : ∀ l r : List T, rens m (l ++ r) = rens m l ++ rens m r
 | [], r => rfl
 | t :: l, r => by rw [List.cons_append, rens, rens, QdD m l r, List.cons_append]
theorem Ql4 (m : Int → Option Int) (l : List T) {k : Nat} (h : k < l.length) : rens m (l.take (k + 1)) = rens m (l.take k) ++ [l[k].ren m] := by
 rw [List.take_add_one, List.getElem?_eq_getElem h, QdD]; rfl
def toM (n : Int) (p : List Int) (v : Int) : Option Int := if v ∈ p then some (n + (plc p v : Nat)) else none
def toMG (n : Int) (L σ : List Int) (v : Int) : Option Int := if v ∈ L then some (n + σ.getD (plc L v) 0) else none
theorem QiG (n : Int) (p : List Int) (v : Int) : (toM n p v).getD v = toF n p v := by unfold toM toF; split <;> rfl
theorem Qlx (n : Int) (L σ : List Int) (v : Int) : (toMG n L σ v).getD v = toG n L σ v := by unfold toMG toG; split <;> rfl
end Go.Proofs.YtniljpjjnmkoaaaGreatDoor.Ab
set_option maxRecDepth 4000
namespace Go.Proofs.YtniljpjjnmkoaaaGreatDoor.Ab
open Go.Proofs
theorem Qgr (n : Int) : Pure Tryz.prog 37 [.i n] (T.mk 1 n { data := #[] } []).av := by
 intro h
 refine Qe Tryz.func37 rfl Tryz.call37 Tryz.ntmps37 (congrArg Array.toList Tryz.results37) (by simp) ?_
 repeat (first | (((with_reducible refine Qa fun K E hK hE => ?_)); simp -implicitDefEqProofs only [Qg, Qh, OpW, aop, undef, AS.ev, Qy, AV.QpF, ↓reduceIte, QL, QF, Xy, XR, ti41, zi41, sp41, seval]) | (with_reducible refine Qj ?_) | ((with_reducible refine hK _ ?_); clear hK))
 simp -implicitDefEqProofs only [Qg, ↓reduceIte, QC, QD, ti41, QE, Ql, Qr, QqC, seval]
 exact Qd (r' := .agg [.i 1, .i n, .v (.string { data := #[] }), .sl 4 [] none]) (htake _ _) (.agg rfl (Xa (.keep (.v _)) (Xa (.keep (.v _)) (Xa (.keep (.v _)) (Ya (.nil 4)))))) ⟨by simp only [T.av, avs], rfl⟩
structure RenAt (pr pe pm it : Nat) (es : List (Int × AV)) (h : AH) : Prop where
 r : h[pr]? = some (.cells 158 1 [.fn (.func 124) [] [.ptr pm 0 0, .ptr pe 0 0]])
 e : h[pe]? = some (.cells 154 1 [.fn (.func 123) [] [.ptr pr 0 0]])
 m : h[pm]? = some (.cells 115 1 [.mp it])
 t : h[it]? = some (.map (imap es))
theorem RenAt.app {pr pe pm it : Nat} {es : List (Int × AV)} {h : AH} (H : RenAt pr pe pm it es h) (L : AH) : RenAt pr pe pm it es (h ++ L) := ⟨hext H.r L, hext H.e L, hext H.m L, hext H.t L⟩
theorem Qd3 {m : Int → Option Int} {l : List T} {k : Nat} (h : k < l.length) : rens m (l.take (k + 1)) = rens m (l.take k) ++ [(l[k]).ren m] := Ql4 m l h
theorem QiI {pr pe pm it : Nat} {es : List (Int × AV)} {m : Int → Option Int} (n : Nat) (hb : n ≤ 1000000)
  (ih : ∀ t : T, t.nds ≤ n → ∀ h, RenAt pr pe pm it es h → Q4 Tryz.prog 124 [t.av, .ptr pm 0 0, .ptr pe 0 0] h fun o h' => o = .ret (t.ren m).av ∧ h' = h)
  (l : List T) (hn : ndsL l ≤ n) (h : AH) (H : RenAt pr pe pm it es h) :
  Q4 Tryz.prog 123 [.sl 4 (avs l) none, .ptr pr 0 0] h fun o h' => o = .ret (.sl 4 (avs (rens m l)) none) ∧ h' = h := by
 have hll := QZ l
 have hr : ∀ L : AH, (h ++ L)[pr]? = some (.cells 158 1 [.fn (.func 124) [] [.ptr pm 0 0, .ptr pe 0 0]]) := fun L => (H.app L).r
 refine Qe Tryz.func123 rfl Tryz.call123 Tryz.ntmps123 (congrArg Array.toList Tryz.results123) (by simp) ?_
 repeat (first | (((with_reducible refine Qa fun K E hK hE => ?_)); simp -implicitDefEqProofs only [Qg, Qh, OpW, aop, undef, AS.ev, Qy, ↓reduceIte, aLen, goInt, un29, seval]) | (with_reducible (first | refine Qc fun K hK => ?_ | refine Qi ?_)) | ((with_reducible refine hK _ ?_); clear hK))
 refine YS 4 41 4 rfl ?_
 obtain ⟨I, hI⟩ : ∃ I : Nat → AS → Prop, I = fun m' s => ∃ (j : Nat) (L : AH), m' = l.length - j ∧ j ≤ l.length ∧ s.tm 1 = .ptr pr 0 0 ∧ s.tm 4 = .sl 4 (avs (rens m (l.take j))) (some h.length) ∧ s.tm 7 = .sl 4 (avs l) none ∧ s.tm 8 = .i l.length ∧ s.tm 9 = .i j ∧ s.h = h ++ ([.grow 41 4 j] ++ L) := ⟨_, rfl⟩; refine QJ I ?_ (m := l.length) ?_
 ·intro m' s hs; rw [hI] at hs; obtain ⟨tm, hp⟩ := s; dsimp only at hs; obtain ⟨j, L, rfl, hj, t1, t4, t7, t8, t9, rfl⟩ := hs
  by_cases hlt : j < l.length
  ·have hc : ∀ M : AH, FunW Tryz.prog (.fn (.func 124) [] [.ptr pm 0 0, .ptr pe 0 0]) [(l[j]).av] (h ++ M) fun o h' => o = .ret ((l[j]).ren m).av ∧ h' = h ++ M := fun M => FunW.fn (ih l[j] (Nat.le_trans (YD hlt) hn) _ (H.app M))
   have hml : (rens m (l.take j)).length = j := by rw [QdU, List.length_take]; omega
   have hb1 : j + 1 ≤ maxLen := by simp only [maxLen]; omega
   have hb2 : (j + 1) * 56 ≤ 140737488355328 := by omega
   repeat (first | ((first | (with_reducible (first | refine Qa fun K E hK hE => ?_ | refine Qm fun K E hK hE => ?_ | refine FunW.ret (hc _) ?_))); simp -implicitDefEqProofs only [Qg, Qh, OpW, QI, aop, undef, AS.ev, AV.QpF, ↓reduceIte, QC, QD, QL, QF, Qz, aBin, QK, XA, X6, ei29, ai29, ti41, zi41, QoN, t1, t4, t7, t8, t9, hlt, Xc hlt, hr, hml, hb1, hb2, seval]) | (with_reducible (first | refine Qc fun K hK => ?_ | refine Qi ?_ | refine Qk ?_ | refine Qb ?_ | refine Qn ?_)) | ((with_reducible refine hK _ ?_); clear hK) | (refine Qf rfl ?_; simp only [↓reduceIte]))
   refine Q1.mk (m' := l.length - (j + 1)) (by omega) ?_
   rw [hI]
   refine ⟨j + 1, L ++ [.cells 41 4 [(l[j]).av]], rfl, hlt, t1, ?_, t7, t8, ?_, by simp⟩
   ·simp only [upd, ↓reduceIte, Nat.reduceEqDiff]
    rw [Qd3 hlt, QaJ, Qbc]
   ·simp only [upd, ↓reduceIte]
    rw [QP (by omega)]
  ·have hjl : j = l.length := by omega
   repeat (first | (((with_reducible refine Qa fun K E hK hE => ?_)); simp -implicitDefEqProofs only [Qg, Qh, OpW, aop, AS.ev, ↓reduceIte, aBin, t4, t8, t9, hlt, seval]) | (with_reducible (first | refine Qc fun K hK => ?_ | refine Qj ?_ | refine QB ?_ | refine Qb ?_ | refine Qw ?_ | refine Qv ?_)) | ((with_reducible refine hK _ ?_); clear hK) | (clear hK; (with_reducible refine hK _ ?_); clear hK) | (refine Qf rfl ?_; simp only [↓reduceIte, Qqw]))
   simp only [QE, Ql, Qr, upd, ↓reduceIte, Qqy, QqC]; first | refine Qd (htake _ _) (.tok (Y7 _ _)) ⟨by rw [hjl, List.take_length], rfl⟩ | refine Qd List.take_length (.tok (Y7 _ _)) ⟨by rw [hjl, List.take_length], rfl⟩
 ·rw [hI]
  exact ⟨0, [], by omega, Nat.zero_le _, rfl, rfl, rfl, by simp only [upd, ↓reduceIte, Nat.reduceEqDiff], rfl, rfl⟩
theorem T.Qqq (m : Int → Option Int) (t : T) : t.ren m = if t.kind = 1 then (match m t.int with | some j => .mk 1 j { data := #[] } [] | none => t) else if t.kind = 2 then .mk t.kind t.int t.name (rens m t.args) else t := by
 cases t; simp only [T.ren, T.kind, T.int, T.name, T.args]; rfl
theorem Qk5 {pr pe pm it : Nat} {es : List (Int × AV)} {m : Int → Option Int} (hes : ∀ v, QaS v es = (m v).map fun x => AV.i x) : ∀ n, n ≤ 1000000 → ∀ t : T, t.nds ≤ n → ∀ h, RenAt pr pe pm it es h →
  Q4 Tryz.prog 124 [t.av, .ptr pm 0 0, .ptr pe 0 0] h fun o h' => o = .ret (t.ren m).av ∧ h' = h
 | 0, _, t, hn, _, _ => by have := T.QpH t; omega
 | n + 1, hbn, t, hn, h, H => by
  have e := T.Qqq m t
  have hnd := T.QpH t
  have hEc : ∀ L : AH, (h ++ L)[pe]? = some (.cells 154 1 [.fn (.func 123) [] [.ptr pr 0 0]]) := fun L => (H.app L).e
  have hm : ∀ L : AH, (h ++ L)[pm]? = some (.cells 115 1 [.mp it]) := fun L => (H.app L).m
  have ht : ∀ L : AH, (h ++ L)[it]? = some (.map (imap es)) := fun L => (H.app L).t
  have hc : ∀ M : AH, FunW Tryz.prog (.fn (.func 123) [] [.ptr pr 0 0]) [.sl 4 (avs t.args) none] (h ++ M) fun o h' => o = .ret (.sl 4 (avs (rens m t.args)) none) ∧ h' = h ++ M := fun M =>
   FunW.fn (QiI n (by omega) (fun t ht h H => Qk5 hes n (by omega) t ht h H) t.args (by omega) _ (H.app M))
  have hf := Ze t.int es
  rw [hes] at hf
  cases hmv : m t.int with
  | some j =>
   rw [hmv] at hf e
   replace hf : QbS (.int .i64) (.int .i64 t.int) (imap es) = some (some (.i j)) := hf
   have cv := Qgr j
   by_cases h1 : t.kind = 1
   ·have b1 : (t.kind == 1) = true := by simpa using h1
    rw [if_pos h1] at e
    refine Qe Tryz.func124 rfl Tryz.call124 Tryz.ntmps124 (congrArg Array.toList Tryz.results124) (by simp) ?_
    repeat (first | ((first | (with_reducible (first | refine Qa fun K E hK hE => ?_ | refine Qq cv ?_))); simp -implicitDefEqProofs only [Qg, Qh, OpW, QI, aop, undef, AS.ev, Qy, AV.QpF, ↓reduceIte, Qp, QC, QD, QL, QF, aBin, Xd, Yb, ti3, ti41, Q2, Xo, zi41, Qfm, Qjo, b1, hm, ht, hf, seval]) | (with_reducible (first | refine Qc fun K hK => ?_ | refine Qj ?_ | refine Qo ?_)) | ((with_reducible refine hK _ ?_); clear hK) | (refine Qf rfl ?_; simp only [↓reduceIte]))
    simp -implicitDefEqProofs only [Qg, ↓reduceIte, QC, QD, ti41, QE, Ql, Qr, QqC, seval]
    exact Qd (htake _ _) (.keep (T.QpI _ _)) ⟨by rw [e], rfl⟩
   ·have b1 : (t.kind == 1) = false := by simpa using h1
    rw [if_neg h1] at e
    by_cases h2 : t.kind = 2
    ·have b2 : (t.kind == 2) = true := by simpa using h2
     rw [if_pos h2] at e
     refine Qe Tryz.func124 rfl Tryz.call124 Tryz.ntmps124 (congrArg Array.toList Tryz.results124) (by simp) ?_
     repeat (first | ((first | (with_reducible (first | refine Qa fun K E hK hE => ?_ | refine Qm fun K E hK hE => ?_ | refine FunW.ret (hc _) ?_))); simp -implicitDefEqProofs only [Qg, Qh, OpW, QI, aop, undef, AS.ev, Qy, AV.QpF, ↓reduceIte, Qp, QC, QD, QL, QF, aBin, Xd, Yb, ti3, ti29, ti41, Q2, Xo, Xg, zi41, Qfm, Qjo, QlY, b1, b2, hEc, hm, ht, hf, seval]) | (with_reducible (first | refine Qc fun K hK => ?_ | refine Qj ?_ | refine Qk ?_ | refine Qb ?_)) | ((with_reducible refine hK _ ?_); clear hK) | (refine Qf rfl ?_; simp only [↓reduceIte, Qqw]))
     simp -implicitDefEqProofs only [Qg, ↓reduceIte, QC, QD, ti41, QE, Ql, Qr, QqC, seval]
     rw [T.QpW]
     exact Qd (htake _ _) (.keep (T.QpI _ _)) ⟨by rw [e], rfl⟩
    ·have b2 : (t.kind == 2) = false := by simpa using h2
     rw [if_neg h2] at e
     refine Qe Tryz.func124 rfl Tryz.call124 Tryz.ntmps124 (congrArg Array.toList Tryz.results124) (by simp) ?_
     repeat (first | (((with_reducible refine Qa fun K E hK hE => ?_)); simp -implicitDefEqProofs only [Qg, Qh, OpW, aop, undef, AS.ev, Qy, AV.QpF, ↓reduceIte, Qp, QC, QD, QL, QF, aBin, Xd, Yb, ti3, ti41, Q2, Xo, zi41, Qfm, Qjo, b1, b2, hm, ht, hf, seval]) | (with_reducible (first | refine Qc fun K hK => ?_ | refine Qj ?_ | refine Qk ?_ | refine Qb ?_)) | ((with_reducible refine hK _ ?_); clear hK) | (refine Qf rfl ?_; simp only [↓reduceIte, Qqw]))
     simp -implicitDefEqProofs only [Qg, ↓reduceIte, QC, QD, ti41, QE, Ql, Qr, QqC, seval]
     exact Qd (htake _ _) (.keep (T.QpI _ _)) ⟨by rw [e], rfl⟩
  | none =>
   rw [hmv] at hf e
   replace hf : QbS (.int .i64) (.int .i64 t.int) (imap es) = some none := hf
   by_cases h2 : t.kind = 2
   ·have b2 : (t.kind == 2) = true := by simpa using h2
    rw [if_neg (by omega), if_pos h2] at e
    refine Qe Tryz.func124 rfl Tryz.call124 Tryz.ntmps124 (congrArg Array.toList Tryz.results124) (by simp) ?_
    repeat (first | ((first | (with_reducible (first | refine Qa fun K E hK hE => ?_ | refine Qm fun K E hK hE => ?_ | refine FunW.ret (hc _) ?_))); simp -implicitDefEqProofs only [Qg, Qh, OpW, QI, aop, undef, AS.ev, Qy, AV.QpF, ↓reduceIte, Qp, QC, QD, QL, QF, aBin, Xd, Yb, ti3, zi3, ti29, ti41, Q2, Xo, Xg, zi41, Qfm, Qjo, QlY, b2, hEc, hm, ht, hf, seval]) | (with_reducible (first | refine Qc fun K hK => ?_ | refine Qj ?_ | refine Qk ?_ | refine Qb ?_)) | ((with_reducible refine hK _ ?_); clear hK) | (refine Qf rfl ?_; simp only [↓reduceIte, Qqw]))
    simp -implicitDefEqProofs only [Qg, ↓reduceIte, QC, QD, ti41, QE, Ql, Qr, QqC, seval]
    rw [T.QpW]
    exact Qd (htake _ _) (.keep (T.QpI _ _)) ⟨by rw [e], rfl⟩
   ·have b2 : (t.kind == 2) = false := by simpa using h2
    have e' : t.ren m = t := by rw [e]; split <;> first | rfl | (rw [if_neg h2])
    refine Qe Tryz.func124 rfl Tryz.call124 Tryz.ntmps124 (congrArg Array.toList Tryz.results124) (by simp) ?_
    repeat (first | (((with_reducible refine Qa fun K E hK hE => ?_)); simp -implicitDefEqProofs only [Qg, Qh, OpW, aop, undef, AS.ev, Qy, AV.QpF, ↓reduceIte, Qp, QC, QD, QL, QF, aBin, Xd, Yb, ti3, zi3, ti41, Q2, Xo, zi41, Qfm, Qjo, b2, hm, ht, hf, seval]) | (with_reducible (first | refine Qc fun K hK => ?_ | refine Qj ?_ | refine Qk ?_ | refine Qb ?_)) | ((with_reducible refine hK _ ?_); clear hK) | (refine Qf rfl ?_; simp only [↓reduceIte, Qqw]))
    simp -implicitDefEqProofs only [Qg, ↓reduceIte, QC, QD, ti41, QE, Ql, Qr, QqC, seval]
    exact Qd (htake _ _) (.keep (T.QpI _ _)) ⟨by rw [e'], rfl⟩
end Go.Proofs.YtniljpjjnmkoaaaGreatDoor.Ab
set_option maxRecDepth 4000
namespace Go.Proofs.YtniljpjjnmkoaaaGreatDoor.Ab
open Go.Proofs
theorem RenAt.keep {pr pe pm it : Nat} {es : List (Int × AV)} {h hx : AH} (H : RenAt pr pe pm it es h) (k : Keep h hx) : RenAt pr pe pm it es hx :=
 ⟨k _ _ H.r (by intros; nofun), k _ _ H.e (by intros; nofun), k _ _ H.m (by intros; nofun), k _ _ H.t (by intros; nofun)⟩
theorem ZB {P : Program} {N : Nat} {fv : AV} {args : List AV} {s : AS} {d : Option Tmp} {K : AS → Prop} {r : AV} (H : ∀ hx, Keep s.h hx → FunW P fv args hx fun o h' => o = .ret r ∧ h' = hx) (k : K (AS.put N s d r)) : Qoe P N fv args s d K := ⟨r, H, k⟩
def Ct.av (c : Ct) : AV := .agg [.sl 4 (avs c.vals) none, .sl 2 (vs G.atom c.store) none]
theorem Ct.cells (c : Ct) : c.av.cells = [.sl 4 (avs c.vals) none, .sl 2 (vs G.atom c.store) none] := rfl
theorem Ct.isAgg (c : Ct) : c.av.isAgg = true := rfl
def G.ren (m : Int → Option Int) (g : G) : G := ⟨0, g.name, rens m g.args⟩
def ansB (m : Int → Option Int) (c : Ct) (sv : AV) : AB := .cells 32 3 [.agg [.v (.bool false), .sl 4 (avs (rens m c.vals)) none, sv]]
def Qn4 (m : Int → Option Int) (c : Ct) (n k : Nat) (sv : AV) (M : AH) : Prop :=
 (k = 0 ∧ sv = .sl 2 [] (some (n + 6))) ∨ (0 < k ∧ ∃ M', M = M' ++ [.cells 45 2 (vs G.atom ((c.store.take k).map (G.ren m)))] ∧ sv = .arr (n + (M'.length + 7)) 0 k)
theorem Qgu {it : Nat} {es : List (Int × AV)} {m : Int → Option Int} (hes : ∀ v, QaS v es = (m v).map fun x => AV.i x) (c : Ct) (hv : ndsL c.vals ≤ 1000000) (hs : gsN c.store ≤ 1000000) (hk12 : c.store.length ≤ 12)
  (hn : ∀ g ∈ c.store.map (G.ren m), ndsL g.args ≤ 1000000) (h : AH) (ht : h[it]? = some (.map (imap es))) :
  Q4 Tryz.prog 79 [c.av, .mp it] h fun o h' => o = .ret (An.mk false (rens m c.vals) (Yq cmpG (c.store.map (G.ren m)))).av ∧ h' = h := by
 have hsl := Zo c.store
 have hR : ∀ M : AH, RenAt (h.length + 3) (h.length + 4) (h.length + 1) it es (h ++ ([.cells 76 2 [c.av], .cells 115 1 [.mp it], .cells 32 3 [.agg [.v (.bool false), .v (.slice none 0 0), .v (.slice none 0 0)]], .cells 158 1 [.fn (.func 124) [] [.ptr (h.length + 1) 0 0, .ptr (h.length + 4) 0 0]], .cells 154 1 [.fn (.func 123) [] [.ptr (h.length + 3) 0 0]]] ++ M)) := fun M =>
  ⟨by rw [hget]; rfl, by rw [hget]; rfl, by rw [hget]; rfl, hext ht _⟩
 have hcF : ∀ (l : List T), ndsL l ≤ 1000000 → ∀ H, RenAt (h.length + 3) (h.length + 4) (h.length + 1) it es H → FunW Tryz.prog (.fn (.func 123) [] [.ptr (h.length + 3) 0 0]) [.sl 4 (avs l) none] H fun o h' => o = .ret (.sl 4 (avs (rens m l)) none) ∧ h' = H := fun l hl H hH =>
  FunW.fn (QiI 1000000 (Nat.le_refl _) (fun t ht h H => Qk5 hes 1000000 (Nat.le_refl _) t ht h H) l hl H hH)
 have hR' : ∀ T : AH, RenAt (h.length + 3) (h.length + 4) (h.length + 1) it es (h ++ AB.cells 76 2 [c.av] :: AB.cells 115 1 [.mp it] :: AB.cells 32 3 [.agg [.v (.bool false), .v (.slice none 0 0), .v (.slice none 0 0)]] :: AB.cells 158 1 [.fn (.func 124) [] [.ptr (h.length + 1) 0 0, .ptr (h.length + 4) 0 0]] :: AB.cells 154 1 [.fn (.func 123) [] [.ptr (h.length + 3) 0 0]] :: T) := fun T => hR T
 have c0 := hcF c.vals hv (h ++ [.cells 76 2 [c.av], .cells 115 1 [.mp it], .cells 32 3 [.agg [.v (.bool false), .v (.slice none 0 0), .v (.slice none 0 0)]], .cells 158 1 [.fn (.func 124) [] [.ptr (h.length + 1) 0 0, .ptr (h.length + 4) 0 0]], .cells 154 1 [.fn (.func 123) [] [.ptr (h.length + 3) 0 0]]]) (by have := hR []; rwa [List.append_nil] at this)
 refine Qe Tryz.func79 rfl Tryz.call79 Tryz.ntmps79 (congrArg Array.toList Tryz.results79) (by simp) ?_
 repeat (first | ((first | (with_reducible (first | refine Qa fun K E hK hE => ?_ | refine FunW.ret c0 ?_))); simp -implicitDefEqProofs only [Qg, Qh, OpW, QI, aop, undef, AS.ev, Qy, AV.QpF, ↓reduceIte, Qp, QC, QD, QL, QF, Xy, XR, aLen, goInt, ti29, ti30, un30, ti32, zi32, sp32, Qk1, Qkz, QlY, Qpl, QoN, Qpv, Ct.cells, QN, seval]) | (with_reducible (first | refine Qc fun K hK => ?_ | refine Qi ?_)) | ((with_reducible refine hK _ ?_); clear hK))
 refine ZG (h.length + 5) 32 3 2 .dead (.inl rfl) [.agg [.v (.bool false), .sl 4 (avs (rens m c.vals)) none, .v (.slice none 0 0)]] [.agg [.v (.bool false), .sl 4 (avs (rens m c.vals)) none, .sl 2 [] (some (h.length + 6))]] 2 (by rw [hget]; rfl) rfl (by simp [flat, AV.cells]) (by simp [AV.cells]) ?_
 obtain ⟨I, hI⟩ : ∃ I : Nat → AS → Prop, I = fun m' s => ∃ (k : Nat) (sv : AV) (M : AH), m' = c.store.length - k ∧ k ≤ c.store.length ∧ Qn4 m c h.length k sv M ∧ s.tm 6 = .ptr (h.length + 4) 0 0 ∧ s.tm 7 = .ptr (h.length + 5) 0 0 ∧ s.tm 4 = .ptr (h.length + 2) 0 0 ∧ s.tm 18 = .sl 2 (vs G.atom c.store) none ∧ s.tm 19 = .i c.store.length ∧ s.tm 20 = .i k ∧
   s.h = h ++ ([.cells 76 2 [c.av], .cells 115 1 [.mp it], .cells 32 3 [.agg [.v (.bool false), .v (.slice none 0 0), .v (.slice none 0 0)]], .cells 158 1 [.fn (.func 124) [] [.ptr (h.length + 1) 0 0, .ptr (h.length + 4) 0 0]], .cells 154 1 [.fn (.func 123) [] [.ptr (h.length + 3) 0 0]], ansB m c sv, .dead] ++ M) := ⟨_, rfl⟩; refine QJ I ?_ (m := c.store.length) ?_
 ·intro m' s hs; rw [hI] at hs; obtain ⟨tm, hp⟩ := s; dsimp only at hs; obtain ⟨k, sv, M, rfl, hk, hst, t6, t7, t4, t18, t19, t20, rfl⟩ := hs
  by_cases hlt : k < c.store.length
  ·have hga : ndsL (c.store[k]).args ≤ 1000000 := Nat.le_trans (QbU hlt) hs
   have hts : (c.store.take (k + 1)).map (G.ren m) = (c.store.take k).map (G.ren m) ++ [(c.store[k]).ren m] := by rw [List.take_succ_eq_append_getElem hlt, List.map_append]; rfl
   rcases hst with ⟨rfl, rfl⟩ | ⟨hkp, M', rfl, rfl⟩
   ·have hltI : (0 : Int) < (c.store.length : Int) := by omega
    have h1m : 1 ≤ maxLen := by simp only [maxLen]; omega
    repeat (first | ((first | (with_reducible (first | refine Qa fun K E hK hE => ?_ | refine Qm fun K E hK hE => ?_ | refine ZB (fun hx hk => hcF _ hga hx ((hR' _).keep hk)) ?_)) | (refine QH (id := 8) [(0, 0), (1, 0), (2, 0), (3, 0), (4, 0), (5, 0), (6, 0), (7, 0), (8, 0), (9, 0), (10, 4), (11, 0), (12, 2)] mixed (by kernel_rfl) fun K hK => ?_)); simp -implicitDefEqProofs only [Qg, Qh, OpW, aop, undef, AS.ev, AV.QpF, ↓reduceIte, Qp, QC, QD, QL, QF, Qz, aBin, Xy, XR, QK, XA, X6, ti9, ti29, ti30, ei30, ai30, YF, ti45, ZM, ZO, zi45, sp45, QlY, Qrf, h1m, hltI, ansB, t6, t7, t18, t19, t20, QN, XN G.atom hlt, QQ, Q6, seval]) | (with_reducible (first | refine Qc fun K hK => ?_ | refine Qi ?_ | refine Qk ?_ | refine Qb ?_ | refine Qn ?_)) | ((with_reducible refine hK _ ?_); clear hK) | (refine Qf rfl ?_; simp only [↓reduceIte]))
    refine Q1.mk (m' := c.store.length - (0 + 1)) (by omega) ?_
    rw [hI]
    refine ⟨0 + 1, .arr (h.length + ((M ++ [AB.cells 45 2 [(c.store[0]).atom]]).length + 7)) 0 (0 + 1), (M ++ [AB.cells 45 2 [(c.store[0]).atom]]) ++ [.cells 45 2 (vs G.atom ((c.store.take (0 + 1)).map (G.ren m)))], rfl, hlt, .inr ⟨by omega, _, rfl, rfl⟩, t6, t7, t4, t18, t19, ?_, ?_⟩
    ·simp only [upd, ↓reduceIte]
     rfl
    ·rw [hts]
     simp [ansB, vs, G.ren, G.atom]
   ·have hkb : k + 1 ≤ maxLen := by simp only [maxLen]; omega
    have hkc : (k + 1) * 40 ≤ 140737488355328 := by omega
    have hkl2 : (vs G.atom ((c.store.take k).map (G.ren m))).length = k := by rw [QN, List.length_map, List.length_take]; omega
    repeat (first | ((first | (with_reducible (first | refine Qa fun K E hK hE => ?_ | refine Qm fun K E hK hE => ?_ | refine ZB (fun hx hk => hcF _ hga hx ((hR' _).keep hk)) ?_)) | (refine QH (id := 8) [(0, 0), (1, 0), (2, 0), (3, 0), (4, 0), (5, 0), (6, 0), (7, 0), (8, 0), (9, 0), (10, 4), (11, 0), (12, 2)] mixed (by kernel_rfl) fun K hK => ?_)); simp -implicitDefEqProofs only [Qg, Qh, OpW, aop, undef, AS.ev, AV.QpF, ↓reduceIte, Qp, QC, QD, QL, QF, Qz, aBin, Xy, XR, QK, XA, X6, ti9, ti29, ti30, ei30, ai30, YF, ti45, ZM, ZO, zi45, sp45, QlY, aopR, QcG, ansB, t6, t7, t18, t19, t20, hlt, QN, XN G.atom hlt, QQ, Q6, hkl2, hkb, hkc, seval]) | (with_reducible (first | refine Qc fun K hK => ?_ | refine Qi ?_ | refine Qk ?_ | refine Qb ?_ | refine Qn ?_)) | ((with_reducible refine hK _ ?_); clear hK) | (refine Qf rfl ?_; simp only [↓reduceIte]))
    refine Q1.mk (m' := c.store.length - (k + 1)) (by omega) ?_
    rw [hI]
    refine ⟨k + 1, .arr (h.length + ((M' ++ [AB.dead] ++ [AB.cells 45 2 [(c.store[k]).atom]]).length + 7)) 0 (k + 1), (M' ++ [AB.dead] ++ [AB.cells 45 2 [(c.store[k]).atom]]) ++ [.cells 45 2 (vs G.atom ((c.store.take (k + 1)).map (G.ren m)))], rfl, hlt, .inr ⟨by omega, _, rfl, rfl⟩, t6, t7, t4, t18, t19, ?_, ?_⟩
    ·simp only [upd, ↓reduceIte]
     rw [QP (by omega)]
    ·rw [hts]
     simp [ansB, vs, G.ren, G.atom]
  ·have hkl : k = c.store.length := by omega
   subst hkl
   have hfin : ∀ (own : AH) (sv : AV), Frz (h ++ own) h.length sv (.sl 2 (vs G.atom (Yq cmpG (c.store.map (G.ren m)))) none) → Frz (h ++ own) h.length (.agg [.v (.bool false), .sl 4 (avs (rens m c.vals)) none, sv]) (An.mk false (rens m c.vals) (Yq cmpG (c.store.map (G.ren m)))).av := fun own sv hf =>
    .agg rfl (Xa (.keep (.v _)) (Xa (.keep (X0 _ _)) (Ya hf)))
   rcases hst with ⟨h0, rfl⟩ | ⟨hkp, M', rfl, rfl⟩
   ·have hs0 : c.store = [] := List.length_eq_zero_iff.1 h0
    have cs : ∀ hx, Q4 Tryz.prog 125 [.sl 2 [] (some (h.length + 6)), .fn (.func 52) [] []] hx fun o h' => o = .ret (.tup []) ∧ h' = hx := fun hx =>
     Qao (.cons (.sl rfl (by simp) .nil) (.cons (.refl _) .nil)) (QmE hx)
    repeat (first | ((first | (with_reducible (first | refine Qa fun K E hK hE => ?_ | refine FunW.ret (FunW.call (cs _)) ?_))); simp -implicitDefEqProofs only [Qg, Qh, OpW, QI, aop, undef, AS.ev, AV.QpF, ↓reduceIte, Qp, QC, QD, QL, QF, aBin, ti30, ti32, YF, ansB, t7, t4, t19, t20, hlt, seval]) | (with_reducible (first | refine Qc fun K hK => ?_ | refine Qj ?_ | refine QB ?_ | refine Qb ?_ | refine Qw ?_ | refine Qv ?_)) | ((with_reducible refine hK _ ?_); clear hK) | (clear hK; (with_reducible refine hK _ ?_); clear hK) | (refine Qf rfl ?_; simp only [↓reduceIte, Qqw]))
    simp -implicitDefEqProofs only [Qg, ↓reduceIte, QC, QD, ti32, t4, QE, Ql, Qr, QqC, seval]
    exact Qd (htake _ _) (hfin _ _ (by rw [hs0]; exact Frz.tok (s := 2) (xs := []) (by simp [flat]))) ⟨rfl, rfl⟩
   ·have hml : (c.store.map (G.ren m)).length = c.store.length := List.length_map _
    rw [List.take_length]
    have cs : ∀ hx : AH, hx[h.length + (M'.length + 7)]? = some (.cells 45 2 (vs G.atom (c.store.map (G.ren m)))) → Q4 Tryz.prog 125 [.arr (h.length + (M'.length + 7)) 0 c.store.length, .fn (.func 52) [] []] hx fun o h' => o = .ret (.tup []) ∧ h' = hx.set (h.length + (M'.length + 7)) (.cells 45 2 (vs G.atom (Yq cmpG (c.store.map (G.ren m))))) := fun hx hg => by
     have := Qkn (c.store.map (G.ren m)) (by omega) hn hx _ (QA hg)
     rwa [hml, Qe8 hg] at this
    repeat (first | (((with_reducible refine Qa fun K E hK hE => ?_)); simp -implicitDefEqProofs only [Qg, Qh, OpW, aop, AS.ev, ↓reduceIte, Qp, QC, QD, aBin, ti30, YF, ansB, t7, t19, t20, hlt, seval]) | (with_reducible (first | refine Qc fun K hK => ?_ | refine QB ?_ | refine Qb ?_ | refine Qw ?_ | refine Qv ?_)) | ((with_reducible refine hK _ ?_); clear hK) | (clear hK; (with_reducible refine hK _ ?_); clear hK) | (refine Qf rfl ?_; simp only [↓reduceIte, Qqw]))
    refine FunW.ret (FunW.call (cs _ (by rw [hget]; simp))) ?_
    simp -implicitDefEqProofs only [Qg, QI, Nat.reduceLT]
    repeat (first | (((with_reducible refine Qa fun K E hK hE => ?_)); simp -implicitDefEqProofs only [Qg, Qh, OpW, aop, undef, AS.ev, AV.QpF, ↓reduceIte, QC, QD, QL, QF, ti32, t7, t4, seval]) | (with_reducible refine Qj ?_) | ((with_reducible refine hK _ ?_); clear hK))
    simp -implicitDefEqProofs only [Qg, ↓reduceIte, QC, QD, ti32, t4, QE, Ql, Qr, QqC, seval]
    refine Qd (htake _ _) (hfin _ _ ?_) ⟨rfl, rfl⟩
    have hx : ∀ hx : AH, hx[h.length + (M'.length + 7)]? = some (.cells 45 2 (vs G.atom (Yq cmpG (c.store.map (G.ren m))))) → Frz hx h.length (.arr (h.length + (M'.length + 7)) 0 c.store.length) (.sl 2 (vs G.atom (Yq cmpG (c.store.map (G.ren m)))) none) := fun hx hg => by
     have h1 := Frz.arr (m := h.length) (lo := 0) (len := c.store.length) (by omega) hg (by rw [QN, Y5, hml, Nat.zero_add]; exact Nat.le_refl _) (QhX G.atom _ (Qay _) _)
     rw [List.drop_zero, List.take_of_length_le (by rw [QN, Y5, hml]; exact Nat.le_refl _)] at h1
     exact h1
    exact hx _ (by rw [hget]; simp)
 ·rw [hI]
  refine ⟨0, _, [], by omega, Nat.zero_le _, .inl ⟨rfl, rfl⟩, rfl, rfl, rfl, rfl, by simp only [upd, ↓reduceIte, Nat.reduceEqDiff], rfl, ?_⟩
  simp [ansB]
end Go.Proofs.YtniljpjjnmkoaaaGreatDoor.Ab
set_option maxRecDepth 4000
namespace Go.Proofs.YtniljpjjnmkoaaaGreatDoor.Ab
open Go.Proofs
def revK (D : List Int) (k : Nat) : List Int := (List.range D.length).map fun i => D.getD (if i < k ∨ D.length ≤ i + k then D.length - 1 - i else i) 0
theorem Yv (D : List Int) (k : Nat) : (revK D k).length = D.length := by simp [revK]
theorem QaN {D : List Int} {k i : Nat} (h : i < D.length) : (revK D k)[i]? = some (D.getD (if i < k ∨ D.length ≤ i + k then D.length - 1 - i else i) 0) := by
 rw [revK, List.getElem?_map, List.getElem?_range h]; rfl
theorem Qk0 (D : List Int) : revK D 0 = D := by
 apply List.ext_getElem?
 intro i
 by_cases h : i < D.length
 ·rw [QaN h, if_neg (by omega), List.getD_eq_getElem?_getD, List.getElem?_eq_getElem h]; rfl
 ·rw [List.getElem?_eq_none (by rw [Yv]; omega), List.getElem?_eq_none (by omega)]
theorem QmQ {D : List Int} {k : Nat} (hk : D.length ≤ 2 * k + 1) : revK D k = D.reverse := by
 apply List.ext_getElem?
 intro i
 by_cases h : i < D.length
 ·rw [QaN h, List.getElem?_reverse h, List.getD_eq_getElem?_getD]
  by_cases hc : i < k ∨ D.length ≤ i + k
  ·rw [if_pos hc, List.getElem?_eq_getElem (by omega)]; rfl
  ·rw [if_neg hc]
   have e : i = D.length - 1 - i := by omega
   rw [← e, List.getElem?_eq_getElem h]; rfl
 ·rw [List.getElem?_eq_none (by rw [Yv]; omega), List.getElem?_eq_none (by rw [List.length_reverse]; omega)]
theorem Qll {D : List Int} {k : Nat} (hk : k + 1 + k < D.length) : ((revK D k).set k (D.getD (D.length - 1 - k) 0)).set (D.length - 1 - k) (D.getD k 0) = revK D (k + 1) := by
 apply List.ext_getElem?
 intro i
 by_cases h : i < D.length
 ·rw [QaN h]
  by_cases h1 : D.length - 1 - k = i
  ·subst h1
   rw [List.getElem?_set_self (by rw [List.length_set, Yv]; omega), if_pos (by omega)]
   have e : D.length - 1 - (D.length - 1 - k) = k := by omega
   rw [e]
  ·rw [List.getElem?_set_ne h1]
   by_cases h2 : k = i
   ·subst h2
    rw [List.getElem?_set_self (by rw [Yv]; omega), if_pos (by omega)]
   ·rw [List.getElem?_set_ne h2, QaN h]
    by_cases hc : i < k ∨ D.length ≤ i + k
    ·rw [if_pos hc, if_pos (by omega)]
    ·rw [if_neg hc, if_neg (by omega)]
 ·rw [List.getElem?_eq_none (by rw [List.length_set, List.length_set, Yv]; omega), List.getElem?_eq_none (by rw [Yv]; omega)]
theorem QgJ (A D : List Int) (hb : D.length ≤ 1000) (hd : 0 < D.length) (h : AH) (id : Nat) (hid : id < h.length) :
  Q4 Tryz.prog 122 [.arr id A.length D.length] (hs h id (.cells 3 1 (ints (A ++ D)))) fun o h' => o = .ret (.tup []) ∧ h' = hs h id (.cells 3 1 (ints (A ++ D.reverse))) := by
 have g1 := fun x => Qdn hid x
 have g2 := fun x y => QgH hid x y
 have hw0 : IntKind.i64.wrap ((D.length : Int) - 1) = ((D.length - 1 : Nat) : Int) := by rw [Xp (by omega)]; omega
 refine Qe Tryz.func122 rfl Tryz.call122 Tryz.ntmps122 (congrArg Array.toList Tryz.results122) (by simp) ?_
 repeat (first | ((first | (with_reducible (first | refine Qa fun K E hK hE => ?_ | refine Qm fun K E hK hE => ?_)) | (refine Qt (id := 3) [(0, 0), (1, 0), (2, 1), (3, 1), (4, 0), (5, 0), (6, 0), (7, 0), (8, 0), (9, 0), (10, 0), (11, 0), (12, 0), (13, 2), (14, 0), (15, 2)] mixed (by kernel_rfl) fun K hK => ?_) | (refine QH (id := 3) [(0, 0), (1, 0), (2, 1), (3, 1), (4, 0), (5, 0), (6, 0), (7, 0), (8, 0), (9, 0), (10, 0), (11, 0), (12, 0), (13, 2), (14, 0), (15, 2)] mixed (by kernel_rfl) fun K hK => ?_)); simp -implicitDefEqProofs only [Qg, Qh, OpW, aop, undef, AS.ev, Qy, ↓reduceIte, aBin, aLen, goInt, un49, g1, hw0, seval]) | (with_reducible (first | refine Qc fun K hK => ?_ | refine Qi ?_ | refine Qj ?_ | refine QV ?_ | refine QU ?_ | refine Qk ?_ | refine QB ?_ | refine Qb ?_ | refine Qo ?_ | refine Qw ?_ | refine Qn ?_ | refine Qs ?_ | refine Qv ?_ | refine QO rfl ?_)) | (with_reducible (first | refine hK _ ?_ | (clear hK; refine hK _ ?_) | (clear hK; clear hK; refine hK _ ?_) | (clear hK; clear hK; clear hK; refine hK _ ?_)); clear hK) | (refine Qf rfl ?_; simp only [↓reduceIte, Qqw]) | (intro (b : Bool); cases b))
 obtain ⟨I, hI⟩ : ∃ I : Nat → AS → Prop, I = fun m' s => ∃ k : Nat, m' = D.length - k ∧ 2 * k ≤ D.length ∧ k < D.length ∧ s.tm 0 = .arr id A.length D.length ∧ s.tm 2 = .i k ∧ s.tm 3 = .i (D.length - 1 - k : Nat) ∧ s.h = hs h id (.cells 3 1 (ints (A ++ revK D k))) := ⟨_, rfl⟩; refine QJ I ?_ (m := D.length) ?_
 ·intro m' s hs; rw [hI] at hs; obtain ⟨tm, hp⟩ := s; dsimp only at hs; obtain ⟨k, rfl, hk, hkd, t0, t2, t3, rfl⟩ := hs
  by_cases hlt : k < D.length - 1 - k
  ·have hk1 : k + 1 + k < D.length := by omega
   have hj : D.length - 1 - k < D.length := by omega
   have gk : (ints (A ++ revK D k))[A.length + k]? = some (.i (D.getD k 0)) := by
    rw [XF, List.getElem?_append_right (by rw [Q0]; omega), Q0, Nat.add_sub_cancel_left]
    simp only [ints, List.getElem?_map]
    rw [QaN hkd, if_neg (by omega)]; rfl
   have gj : (ints (A ++ revK D k))[A.length + (D.length - 1 - k)]? = some (.i (D.getD (D.length - 1 - k) 0)) := by
    rw [XF, List.getElem?_append_right (by rw [Q0]; omega), Q0, Nat.add_sub_cancel_left]
    simp only [ints, List.getElem?_map]
    rw [QaN hj, if_neg (by omega)]; rfl
   have gj2 : ((ints (A ++ revK D k)).set (A.length + k) (.i (D.getD (D.length - 1 - k) 0)))[A.length + (D.length - 1 - k)]? = some (.i (D.getD (D.length - 1 - k) 0)) := by
    rw [List.getElem?_set_ne (by omega)]; exact gj
   have hset2 : (((ints (A ++ revK D k)).set (A.length + k) (.i (D.getD (D.length - 1 - k) 0))).set (A.length + (D.length - 1 - k)) (.i (D.getD k 0))) = ints (A ++ revK D (k + 1)) := by
    rw [← Qll hk1, XF, XF]
    rw [List.set_append_right _ _ (by rw [Q0]; omega), List.set_append_right _ _ (by rw [Q0]; omega), Q0, Nat.add_sub_cancel_left, Nat.add_sub_cancel_left]
    simp only [ints, List.map_set]
   have hw1 : IntKind.i64.wrap (((D.length - 1 - k : Nat) : Int) - 1) = ((D.length - 1 - (k + 1) : Nat) : Int) := by rw [Xp (by omega)]; omega
   have hw2 : IntKind.i64.wrap ((k : Int) + 1) = ((k + 1 : Nat) : Int) := QP (by omega)
   repeat (first | ((first | (with_reducible (first | refine Qa fun K E hK hE => ?_ | refine Qm fun K E hK hE => ?_)) | (refine Qt (id := 3) [(0, 0), (1, 0), (2, 1), (3, 1), (4, 0), (5, 0), (6, 0), (7, 0), (8, 0), (9, 0), (10, 0), (11, 0), (12, 0), (13, 2), (14, 0), (15, 2)] mixed (by kernel_rfl) fun K hK => ?_) | (refine QH (id := 3) [(0, 0), (1, 0), (2, 1), (3, 1), (4, 0), (5, 0), (6, 0), (7, 0), (8, 0), (9, 0), (10, 0), (11, 0), (12, 0), (13, 2), (14, 0), (15, 2)] mixed (by kernel_rfl) fun K hK => ?_)); simp -implicitDefEqProofs only [Qg, Qh, OpW, aop, undef, AS.ev, AV.QpF, ↓reduceIte, QC, QD, QL, QF, Qz, aBin, ti3, ei49, t0, t2, t3, hlt, hkd, hj, gk, gj, gj2, g1, g2, hset2, hw1, hw2, seval]) | (with_reducible (first | refine Qc fun K hK => ?_ | refine Qi ?_ | refine Qj ?_ | refine QV ?_ | refine QU ?_ | refine Qk ?_ | refine QB ?_ | refine Qb ?_ | refine Qo ?_ | refine Qw ?_ | refine Qn ?_ | refine Qs ?_ | refine Qv ?_ | refine QO rfl ?_)) | (with_reducible (first | refine hK _ ?_ | (clear hK; refine hK _ ?_) | (clear hK; clear hK; refine hK _ ?_) | (clear hK; clear hK; clear hK; refine hK _ ?_)); clear hK) | (refine Qf rfl ?_; simp only [↓reduceIte]) | (intro (b : Bool); cases b))
   refine Q1.mk (m' := D.length - (k + 1)) (by omega) ?_
   rw [hI]
   refine ⟨k + 1, rfl, by omega, by omega, t0, rfl, rfl, rfl⟩
  ·rw [QmQ (by omega)]
   repeat (first | ((first | (with_reducible (first | refine Qa fun K E hK hE => ?_ | refine Qm fun K E hK hE => ?_)) | (refine Qt (id := 3) [(0, 0), (1, 0), (2, 1), (3, 1), (4, 0), (5, 0), (6, 0), (7, 0), (8, 0), (9, 0), (10, 0), (11, 0), (12, 0), (13, 2), (14, 0), (15, 2)] mixed (by kernel_rfl) fun K hK => ?_) | (refine QH (id := 3) [(0, 0), (1, 0), (2, 1), (3, 1), (4, 0), (5, 0), (6, 0), (7, 0), (8, 0), (9, 0), (10, 0), (11, 0), (12, 0), (13, 2), (14, 0), (15, 2)] mixed (by kernel_rfl) fun K hK => ?_)); simp -implicitDefEqProofs only [Qg, Qh, OpW, aop, AS.ev, ↓reduceIte, aBin, t2, t3, hlt, seval]) | (with_reducible (first | refine Qc fun K hK => ?_ | refine Qi ?_ | refine Qj ?_ | refine QV ?_ | refine QU ?_ | refine Qk ?_ | refine QB ?_ | refine Qb ?_ | refine Qo ?_ | refine Qw ?_ | refine Qn ?_ | refine Qs ?_ | refine Qv ?_ | refine QO rfl ?_)) | (with_reducible (first | refine hK _ ?_ | (clear hK; refine hK _ ?_) | (clear hK; clear hK; refine hK _ ?_) | (clear hK; clear hK; clear hK; refine hK _ ?_)); clear hK) | (refine Qf rfl ?_; simp only [↓reduceIte, Qqw]) | (intro (b : Bool); cases b))
   exact ⟨.tup [], rfl, .inr ⟨rfl, rfl⟩⟩
 ·rw [hI]
  exact ⟨0, rfl, by omega, hd, rfl, rfl, rfl, by rw [Qk0]⟩
end Go.Proofs.YtniljpjjnmkoaaaGreatDoor.Ab
namespace Go.Proofs.YtniljpjjnmkoaaaGreatDoor.Ab
theorem Qid {P : Program} {fv : AV} {args : List AV} {h : AH} {Q : AOut → AH → Prop} (H : FunW P fv args h fun o h' => ∃ r, o = .ret r ∧ Leaves h h' r fun r h'' => Q (.ret r) h'') : FunW P fv args h Q := by
 intro F n c v vals hF hs hh hv hvs o a next Qx h1 h2
 refine H F n c v vals hF hs hh hv hvs o a next Qx (fun r c' x hQ hev hst hr => ?_) (fun r c' x hQ hev hst hr => ?_)
 ·obtain ⟨r', e, hl⟩ := hQ
  cases e
  subst hh
  obtain ⟨c2, r2, q1, q2, q3, q4, q5⟩ := Yg hs hst hev hr hl
  rw [← q4]
  exact h1 r2 c2 x q1 q2 q3 q5
 ·obtain ⟨r', e, _⟩ := hQ
  cases e
end Go.Proofs.YtniljpjjnmkoaaaGreatDoor.Ab
set_option maxRecDepth 4000
namespace Go.Proofs.YtniljpjjnmkoaaaGreatDoor.Ab
open Go.Proofs
theorem Qb6 (n : Nat) : Pure Tryz.prog 78 [.i n] (.fn (.func 121) [] [.pin 1 [.i n] 0 0]) := by
  intro h
  refine Qe Tryz.func78 rfl Tryz.call78 Tryz.ntmps78 (congrArg Array.toList Tryz.results78) (by simp) ?_
  repeat (first | (((with_reducible refine Qa fun K E hK hE => ?_)); simp -implicitDefEqProofs only [Qg, Qh, OpW, aop, undef, AS.ev, Qy, AV.QpF, ↓reduceIte, seval]) | (with_reducible refine Qj ?_) | ((with_reducible refine hK _ ?_); clear hK))
  simp only [QE, Ql, Qr, upd, ↓reduceIte, Qqy, QqC]
  refine Qd (r' := .fn (.func 121) [] [.pin 1 [.i n] 0 0]) (htake _ _) (.fn rfl rfl Qi6 (Ya (.ptr (Nat.le_refl _) (Qhg _ _) ?_))) ⟨rfl, rfl⟩
  intro a ha
  simp only [flat, AV.cells, List.flatMap_cons, List.flatMap_nil, QqV, List.mem_singleton] at ha
  subst ha
  exact .v _
def QbY : Nat → List Int → Bool
  | 0, l => (Qeb l).isNone
  | k + 1, l => match Qeb l with
    | some m => QbY k m
    | none => true
theorem Qps : QbY 720 (nums 0) = true := by decide +kernel
theorem Qpu : QbY 720 (nums 1) = true := by decide +kernel
theorem Qpi : QbY 720 (nums 2) = true := by decide +kernel
theorem Qpt : QbY 720 (nums 3) = true := by decide +kernel
theorem Qpk : QbY 720 (nums 4) = true := by decide +kernel
theorem Qpj : QbY 720 (nums 5) = true := by decide +kernel
theorem Qpn : QbY 720 (nums 6) = true := by decide +kernel
theorem QmC {n : Nat} (h : n ≤ 6) : QbY 720 (nums n) = true := by
  match n, h with
  | 0, _ => exact Qps
  | 1, _ => exact Qpu
  | 2, _ => exact Qpi
  | 3, _ => exact Qpt
  | 4, _ => exact Qpk
  | 5, _ => exact Qpj
  | 6, _ => exact Qpn
theorem QcY (k : Nat) (l : List Int) : l ∈ Xz k l := by cases k <;> simp [Xz]
theorem QjV {n : Nat} (h : n ≤ 6) {σ : List Int} (hs : σ ∈ Xz 720 (nums n)) : σ.Perm (nums n) := by rw [QdF h] at hs; exact Qat.1 hs
def OrdAt (n : Nat) (σ : List Int) (a : AV) (h : AH) : Prop := n = 0 ∨ ∃ id, a = .arr id 0 n ∧ h[id]? = some (.cells 3 1 (ints σ))
structure VisP (fv : AV) {S : Type} (H : S → AH) (g : S → List Int → S) (J : S → Prop) (n m : Nat) : Prop where
  len : ∀ s, (H s).length = m
  vis : ∀ s σ a L, J s → σ.Perm (nums n) → OrdAt n σ a (H s ++ L) → FunW Tryz.prog fv [a] (H s ++ L) fun o h' => o = .ret (.b true) ∧ h' = H (g s σ) ++ L
  step : ∀ s σ, J s → σ.Perm (nums n) → J (g s σ)
  old : ∀ s s' (i : Nat) b, (H s')[i]? = some b → (H s)[i]? = some b ∨ b.Below m
theorem Qls (h : AH) : Qht Tryz.prog 49 (.i 0) (.i 0) h = some (.sl 1 [] (some h.length), h ++ [.grow 3 1 0]) := by
  have hE : QW Tryz.prog 49 = some (3, 1) := by kernel_rfl
  have hz : ((Tryz.prog).info? 3).bind (·.zero) = some (.int .i64 0) := by kernel_rfl
  have hbs : ((Tryz.prog).info? 3).map (fun i => (i.bytes, i.size)) = some (8, 1) := by kernel_rfl
  cases hi : (Tryz.prog).info? 3 with
  | none => rw [hi] at hz; cases hz
  | some i =>
    rw [hi] at hz hbs
    replace hz : i.zero = some (.int .i64 0) := hz
    simp only [Qqu, Qqy, Prod.mk.injEq] at hbs
    obtain ⟨b1, b2⟩ := hbs
    simp only [Qht, hE, hi, hz]
    rw [if_pos ⟨by omega, by rw [b1]; omega, by simp only [maxLen]; omega, b2⟩]
theorem QjK {fv : AV} {S : Type} {H : S → AH} {g : S → List Int → S} {J : S → Prop} {m : Nat} (V : VisP fv H g J 0 m) (u : S) (L : AH) (hJ : J u) :
    Q4 Tryz.prog 121 [fv, .pin 1 [.i (0 : Nat)] 0 0] (H u ++ L) fun o h' => o = .ret (.tup []) ∧ h' = H ((Xz 720 (nums 0)).foldl g u) ++ L := by
  have hm := V.len
  have gk : ∀ (u : S) (L : AH) (k : Nat), (H u ++ L)[m + k]? = L[k]? := fun u L k => by rw [← hm u]; exact hget _ _ _
  have sk : ∀ (u : S) (L : AH) (k : Nat) (b : AB), (H u ++ L).set (m + k) b = H u ++ L.set k b := fun u L k b => by rw [← hm u]; exact hset _ _ _ _
  have hv : ∀ (a : AV) (M : AH), FunW Tryz.prog fv [a] (H u ++ M) fun o h' => o = .ret (.b true) ∧ h' = H (g u []) ++ M := fun a M => V.vis u [] a M hJ (List.Perm.refl _) (.inl rfl)
  have e : (Xz 720 (nums 0)).foldl g u = g u [] := by rw [QdF (by omega)]; rfl
  have h00 : ¬ ((0 : Int) < 0) := by decide
  have h2 : IntKind.i64.wrap (-2) = -2 := by decide
  have hm1 : ¬ ((-2 : Int) ≥ 0) := by decide
  have hm2 : ((-2 : Int) < 0) := by decide
  rw [e]
  refine Qe Tryz.func121 rfl Tryz.call121 Tryz.ntmps121 (congrArg Array.toList Tryz.results121) (by simp) ?_
  have mk := Qls (H u ++ L)
  repeat (first | (((with_reducible refine Qa fun K E hK hE => ?_)); simp -implicitDefEqProofs only [Qg, Qh, OpW, aop, undef, AS.ev, Qy, ↓reduceIte, Nat.reduceLT, QC, QD, aLen, goInt, ti3, un49, hm, mk]) | (with_reducible (first | refine Qc fun K hK => ?_ | refine Qi ?_)) | ((with_reducible refine hK _ ?_); clear hK))
  obtain ⟨I, hI⟩ : ∃ I : Nat → AS → Prop, I = fun m' s => m' = 0 ∧ s.tm 0 = fv ∧ s.tm 1 = .pin 1 [.i (0 : Nat)] 0 0 ∧ s.tm 3 = .sl 1 [] (some (m + L.length)) ∧ s.tm 10 = .i 0 ∧ s.tm 11 = .i 0 ∧ s.h = H u ++ (L ++ [.grow 3 1 0]) := ⟨_, rfl⟩; refine QJ I ?_ (m := 0) ?_
  · intro m' s hs; rw [hI] at hs; obtain ⟨tm, hp⟩ := s; dsimp only at hs; obtain ⟨rfl, t0, t1, t3, t10, t11, rfl⟩ := hs
    repeat (first | (((with_reducible refine Qa fun K E hK hE => ?_)); simp -implicitDefEqProofs only [Qg, Qh, OpW, aop, AS.ev, Nat.reduceLT, aBin, t10, t11, h00]) | (with_reducible (first | refine Qc fun K hK => ?_ | refine Qi ?_ | refine QB ?_ | refine Qb ?_ | refine Qw ?_ | refine Qv ?_)) | ((with_reducible refine hK _ ?_); clear hK) | (clear hK; (with_reducible refine hK _ ?_); clear hK) | (refine Qf rfl ?_; simp only [↓reduceIte, Qqw]))
    obtain ⟨I, hI⟩ : ∃ I : Nat → AS → Prop, I = fun m' s => m' = 0 ∧ s.tm 0 = fv ∧ s.tm 1 = .pin 1 [.i (0 : Nat)] 0 0 ∧ s.tm 3 = .sl 1 [] (some (m + L.length)) ∧ s.h = H u ++ (L ++ [.grow 3 1 0]) := ⟨_, rfl⟩; refine QJ I ?_ (m := 0) ?_
    · intro m' s hs; rw [hI] at hs; obtain ⟨tm, hp⟩ := s; dsimp only at hs; obtain ⟨rfl, t0, t1, t3, rfl⟩ := hs
      repeat (first | ((first | (with_reducible (first | refine Qa fun K E hK hE => ?_ | refine FunW.ret (hv _ _) ?_))); simp -implicitDefEqProofs only [Qg, Qh, OpW, QI, aop, AS.ev, ↓reduceIte, QC, QD, aBin, ti3, t0, t1, t3, seval]) | (with_reducible (first | refine Qc fun K hK => ?_ | refine Qi ?_ | refine Qk ?_ | refine Qb ?_)) | ((with_reducible refine hK _ ?_); clear hK) | (refine Qf rfl ?_; simp only [↓reduceIte]))
      obtain ⟨I, hI⟩ : ∃ I : Nat → AS → Prop, I = fun m' s => m' = 0 ∧ s.tm 5 = .i (-2) ∧ s.h = H (g u []) ++ (L ++ [.grow 3 1 0]) := ⟨_, rfl⟩; refine QJ I ?_ (m := 0) ?_
      · intro m' s hs; rw [hI] at hs; obtain ⟨tm, hp⟩ := s; dsimp only at hs; obtain ⟨rfl, t5, rfl⟩ := hs
        repeat (first | ((first | (with_reducible refine Qa fun K E hK hE => ?_) | (refine Qt (id := 8) [(0, 0), (1, 0), (2, 0), (3, 0), (4, 0), (5, 0), (6, 0), (7, 0), (8, 0), (9, 0), (10, 0), (11, 0), (12, 0), (13, 0)] mixed (by kernel_rfl) fun K hK => ?_)); simp -implicitDefEqProofs only [Qg, Qh, OpW, aop, undef, AS.ev, ↓reduceIte, aBin, t5, hm1, hm2, seval]) | (with_reducible (first | refine Qc fun K hK => ?_ | refine Qj ?_ | refine QB ?_ | refine Qb ?_ | refine Qo ?_ | refine Qw ?_ | refine Qs ?_ | refine Qv ?_)) | ((with_reducible refine hK _ ?_); clear hK) | (clear hK; (with_reducible refine hK _ ?_); clear hK) | (refine Qf rfl ?_; simp only [↓reduceIte, Qqw]))
        refine ⟨.tup [], rfl, ?_⟩
        exact Yy V.len V.old (.keep (.tup [] (by simp))) ⟨rfl, rfl⟩
      · rw [hI]
        exact ⟨rfl, rfl, rfl⟩
    · rw [hI]
      exact ⟨rfl, t0, t1, t3, rfl⟩
  · rw [hI]
    exact ⟨rfl, rfl, rfl, rfl, rfl, rfl, rfl⟩
theorem QmU {l : List Int} {x : Int} {k : Nat} (h : l.getD (k + 1) 0 < x) : above l x (k + 1) = above l x k := by rw [above, if_pos h]
theorem Qji {l : List Int} {x : Int} {k : Nat} (h : ¬ l.getD (k + 1) 0 < x) : above l x (k + 1) = k + 1 := by rw [above, if_neg h]
theorem Qje {l : List Int} (h : pivot l (l.length - 1) < 0) : Qeb l = none := by simp only [Qeb]; rw [if_pos h]
theorem Qjp {l : List Int} {i : Nat} (h : pivot l (l.length - 1) = (i : Nat)) : Qeb l = some
    ((((l.set i (l.getD (above l (l.getD i 0) (l.length - 1)) 0)).set (above l (l.getD i 0) (l.length - 1)) (l.getD i 0)).take (i + 1)) ++
     (((l.set i (l.getD (above l (l.getD i 0) (l.length - 1)) 0)).set (above l (l.getD i 0) (l.length - 1)) (l.getD i 0)).drop (i + 1)).reverse) := by
  simp only [Qeb, h, Qq5]
  rw [if_neg (by omega)]
theorem Qmh (n : Nat) (h0 : 0 < n) (h6 : n ≤ 6) (h : AH) : Qht Tryz.prog 49 (.i n) (.i n) h = none ∧ Qes Tryz.prog 49 (.i n) (.i n) h = some (.arr h.length 0 n, h ++ [.cells 3 1 (ints (List.replicate n 0))]) := by
  have hE : QW Tryz.prog 49 = some (3, 1) := by kernel_rfl
  have hz : ((Tryz.prog).info? 3).bind (·.zero) = some (.int .i64 0) := by kernel_rfl
  have hbs : ((Tryz.prog).info? 3).map (fun i => (i.bytes, i.size)) = some (8, 1) := by kernel_rfl
  constructor
  · obtain ⟨k, rfl⟩ : ∃ k, n = k + 1 := ⟨n - 1, by omega⟩
    unfold Qht
    split
    · rename_i q1 q2 q3 e1 e2
      simp only [AV.v.injEq, Value.int.injEq] at e1
      omega
    · rfl
  · cases hi : (Tryz.prog).info? 3 with
    | none => rw [hi] at hz; cases hz
    | some i =>
      rw [hi] at hz hbs
      replace hz : i.zero = some (.int .i64 0) := hz
      simp only [Qqu, Qqy, Prod.mk.injEq] at hbs
      obtain ⟨b1, b2⟩ := hbs
      simp only [Qes, hE, hi, hz]
      rw [if_pos ⟨by omega, trivial, by rw [b1]; omega, by simp only [maxLen]; omega, b2, trivial, rfl⟩]
      simp [ints]
theorem Qhs (j : Nat) : nums (j + 1) = nums j ++ [(j : Int)] := by simp [nums, List.range_succ]
theorem QhB {fv : AV} {S : Type} {H : S → AH} {g : S → List Int → S} {J : S → Prop} {n m : Nat} (V : VisP fv H g J n m) (hn0 : 0 < n) (hn6 : n ≤ 6) (u : S) (L : AH) (hJ : J u) :
    Q4 Tryz.prog 121 [fv, .pin 1 [.i n] 0 0] (H u ++ L) fun o h' => o = .ret (.tup []) ∧ h' = H ((Xz 720 (nums n)).foldl g u) ++ L := by
  have hm := V.len
  have gi : ∀ (u : S) (X : AB) (M : AH), (H u ++ (L ++ X :: M))[m + L.length]? = some X := fun u X M => by rw [← hm u, hget, Qhg]; rfl
  have si : ∀ (u : S) (X Y : AB) (M : AH), (H u ++ (L ++ X :: M)).set (m + L.length) Y = H u ++ (L ++ Y :: M) := fun u X Y M => by
    rw [← hm u, hset, Qks]; rfl
  have mk := Qmh n hn0 hn6 (H u ++ L)
  have rc : ∀ (s : S) (A D : List Int), D.length ≤ 1000 → 0 < D.length → Q4 Tryz.prog 122 [.arr (m + L.length) A.length D.length] (H s ++ (L ++ [.cells 3 1 (ints (A ++ D))])) fun o h' => o = .ret (.tup []) ∧ h' = H s ++ (L ++ [.cells 3 1 (ints (A ++ D.reverse))]) := fun s A D h1 h2 => by
    have := QgJ A D h1 h2 (H s ++ (L ++ [.cells 3 1 (ints (A ++ D))])) (m + L.length) (QA (gi s _ []))
    rwa [Qe8 (gi s _ []), show hs (H s ++ (L ++ [.cells 3 1 (ints (A ++ D))])) (m + L.length) (.cells 3 1 (ints (A ++ D.reverse))) = H s ++ (L ++ [.cells 3 1 (ints (A ++ D.reverse))]) from si s _ _ []] at this
  have hn1 : IntKind.i64.wrap ((n : Int) - 1) = ((n - 1 : Nat) : Int) := by rw [Xp (by omega)]; omega
  have hn2 : IntKind.i64.wrap ((n : Int) - 2) = (n : Int) - 2 := Xp (by omega)
  refine Qe Tryz.func121 rfl Tryz.call121 Tryz.ntmps121 (congrArg Array.toList Tryz.results121) (by simp) ?_
  repeat (first | (((with_reducible refine Qa fun K E hK hE => ?_)); simp -implicitDefEqProofs only [Qg, Qh, OpW, aop, undef, AS.ev, Qy, ↓reduceIte, Nat.reduceLT, QC, QD, aLen, goInt, ti3, un49, mk.1, mk.2, hm, gi]) | (with_reducible (first | refine Qc fun K hK => ?_ | refine Qi ?_)) | ((with_reducible refine hK _ ?_); clear hK))
  obtain ⟨I, hI⟩ : ∃ I : Nat → AS → Prop, I = fun m' s => ∃ j : Nat, m' = n - j ∧ j ≤ n ∧ s.tm 0 = fv ∧ s.tm 1 = .pin 1 [.i n] 0 0 ∧ s.tm 3 = .arr (m + L.length) 0 n ∧ s.tm 10 = .i n ∧ s.tm 11 = .i j ∧ s.h = H u ++ (L ++ [.cells 3 1 (ints (nums j ++ List.replicate (n - j) 0))]) := ⟨_, rfl⟩; refine QJ I ?_ (m := n) ?_
  · intro m' s hs; rw [hI] at hs; obtain ⟨tm, hp⟩ := s; dsimp only at hs; obtain ⟨j, rfl, hj, t0, t1, t3, t10, t11, rfl⟩ := hs
    by_cases hlt : j < n
    · have hg : (ints (nums j ++ List.replicate (n - j) 0))[j]? = some (.i 0) := by
        rw [XF, List.getElem?_append_right (by rw [Q0, nums_length]; omega), Q0, nums_length, Nat.sub_self]
        obtain ⟨k, hk⟩ : ∃ k, n - j = k + 1 := ⟨n - j - 1, by omega⟩
        rw [hk]; rfl
      have hst : (ints (nums j ++ List.replicate (n - j) 0)).set j (.i j) = ints (nums (j + 1) ++ List.replicate (n - (j + 1)) 0) := by
        obtain ⟨k, hk⟩ : ∃ k, n - j = k + 1 := ⟨n - j - 1, by omega⟩
        have hk2 : n - (j + 1) = k := by omega
        rw [hk, hk2, Qhs, XF, List.set_append_right _ _ (by rw [Q0, nums_length]; omega), Q0, nums_length, Nat.sub_self, XF, XF]
        simp [ints, List.replicate_succ]
      repeat (first | ((first | (with_reducible (first | refine Qa fun K E hK hE => ?_ | refine Qm fun K E hK hE => ?_))); simp -implicitDefEqProofs only [Qg, Qh, OpW, aop, undef, AS.ev, AV.QpF, ↓reduceIte, QL, QF, Qz, aBin, ti3, ei49, t3, t10, t11, hlt, hg, hst, gi, si, seval]) | (with_reducible (first | refine Qc fun K hK => ?_ | refine Qi ?_ | refine Qk ?_ | refine Qb ?_ | refine Qn ?_)) | ((with_reducible refine hK _ ?_); clear hK) | (refine Qf rfl ?_; simp only [↓reduceIte]))
      refine Q1.mk (m' := n - (j + 1)) (by omega) ?_
      rw [hI]
      refine ⟨j + 1, rfl, hlt, t0, t1, t3, t10, ?_, rfl⟩
      simp only [upd, ↓reduceIte]
      rw [QP (by omega)]
    · have hjn : j = n := by omega
      subst hjn
      rw [Nat.sub_self, List.replicate_zero, List.append_nil]
      repeat (first | (((with_reducible refine Qa fun K E hK hE => ?_)); simp -implicitDefEqProofs only [Qg, Qh, OpW, aop, AS.ev, Nat.reduceLT, aBin, t10, t11, hlt]) | (with_reducible (first | refine Qc fun K hK => ?_ | refine Qi ?_ | refine QB ?_ | refine Qb ?_ | refine Qw ?_ | refine Qv ?_)) | ((with_reducible refine hK _ ?_); clear hK) | (clear hK; (with_reducible refine hK _ ?_); clear hK) | (refine Qf rfl ?_; simp only [↓reduceIte, Qqw]))
      obtain ⟨I, hI⟩ : ∃ I : Nat → AS → Prop, I = fun m' s => ∃ (k : Nat) (σ : List Int) (v : S) (dn : List (List Int)), m' = k ∧ Xz 720 (nums j) = dn ++ Xz k σ ∧ v = dn.foldl g u ∧ J v ∧ QbY k σ = true ∧ s.tm 0 = fv ∧ s.tm 1 = .pin 1 [.i j] 0 0 ∧ s.tm 3 = .arr (m + L.length) 0 j ∧ s.h = H v ++ (L ++ [.cells 3 1 (ints σ)]) := ⟨_, rfl⟩; refine QJ I ?_ (m := 720) ?_
      · have hO := hI
        intro m' s hs; rw [hI] at hs; obtain ⟨tm, hp⟩ := s; dsimp only at hs; obtain ⟨k, σ, v, dn, hmk, hdn, hv, hJv, hend, t0, t1, t3, rfl⟩ := hs
        have hσ : σ.Perm (nums j) := QjV hn6 (by rw [hdn]; exact List.mem_append_right _ (QcY k σ))
        have hσl : σ.length = j := by rw [hσ.length_eq, nums_length]
        have hvis := V.vis v σ (.arr (m + L.length) 0 j) (L ++ [.cells 3 1 (ints σ)]) hJv hσ (.inr ⟨_, rfl, gi v _ []⟩)
        have hJ2 := V.step v σ hJv hσ
        have gσ : ∀ i : Nat, i < j → (ints σ)[i]? = some (.i (σ.getD i 0)) := fun i hi => by rw [YA (by omega), List.getD_eq_getElem?_getD, List.getElem?_eq_getElem (by omega)]; rfl
        have hPn : Qeb σ = none → H ((Xz 720 (nums j)).foldl g u) = H (g v σ) := fun hq => by
          have e : Xz k σ = [σ] := by cases k with
            | zero => rfl
            | succ k => simp only [Xz, hq]
          rw [hdn, e, List.foldl_append, ← hv]; rfl
        have hPs : ∀ τ, Qeb σ = some τ → ∃ k', k' < k ∧ Xz 720 (nums j) = (dn ++ [σ]) ++ Xz k' τ ∧ QbY k' τ = true := fun τ hq => by
          cases k with
          | zero => simp [QbY, hq] at hend
          | succ k =>
            refine ⟨k, by omega, ?_, ?_⟩
            · rw [hdn]; simp only [Xz, hq]; simp
            · simp only [QbY, hq] at hend; exact hend
        repeat (first | ((first | (with_reducible (first | refine Qa fun K E hK hE => ?_ | refine FunW.ret hvis ?_))); simp -implicitDefEqProofs only [Qg, Qh, OpW, QI, aop, AS.ev, ↓reduceIte, QC, QD, aBin, ti3, t0, t1, t3, hn2, seval]) | (with_reducible (first | refine Qc fun K hK => ?_ | refine Qi ?_ | refine Qk ?_ | refine Qb ?_)) | ((with_reducible refine hK _ ?_); clear hK) | (refine Qf rfl ?_; simp only [↓reduceIte]))
        obtain ⟨I, hI⟩ : ∃ I : Nat → AS → Prop, I = fun m' s => ∃ c : Nat, m' = c ∧ c ≤ j - 1 ∧ pivot σ (j - 1) = pivot σ c ∧ s.tm 0 = fv ∧ s.tm 1 = .pin 1 [.i j] 0 0 ∧ s.tm 3 = .arr (m + L.length) 0 j ∧ s.tm 5 = .i ((c : Int) - 1) ∧ s.h = H (g v σ) ++ (L ++ [.cells 3 1 (ints σ)]) := ⟨_, rfl⟩; refine QJ I ?_ (m := j - 1) ?_
        · intro m' s hs; rw [hI] at hs; obtain ⟨tm, hp⟩ := s; dsimp only at hs; obtain ⟨c, hmc, hc, hpv, t0, t1, t3, t5, rfl⟩ := hs
          cases c with
          | zero =>
            have t5' : tm 5 = .i (-1) := by rw [t5]; rfl
            have hm1 : ¬ ((-1 : Int) ≥ 0) := by decide
            have hm2 : ((-1 : Int) < 0) := by decide
            have hnp : Qeb σ = none := Qje (by rw [hσl, hpv]; exact (by decide : (-1 : Int) < 0))
            repeat (first | ((first | (with_reducible refine Qa fun K E hK hE => ?_) | (refine Qt (id := 8) [(0, 0), (1, 0), (2, 0), (3, 0), (4, 0), (5, 0), (6, 0), (7, 0), (8, 0), (9, 0), (10, 0), (11, 0), (12, 0), (13, 0)] mixed (by kernel_rfl) fun K hK => ?_)); simp -implicitDefEqProofs only [Qg, Qh, OpW, aop, undef, AS.ev, ↓reduceIte, aBin, t5', hm1, hm2, seval]) | (with_reducible (first | refine Qc fun K hK => ?_ | refine Qj ?_ | refine QB ?_ | refine Qb ?_ | refine Qo ?_ | refine Qw ?_ | refine Qs ?_ | refine Qv ?_)) | ((with_reducible refine hK _ ?_); clear hK) | (clear hK; (with_reducible refine hK _ ?_); clear hK) | (refine Qf rfl ?_; simp only [↓reduceIte, Qqw]))
            refine ⟨.tup [], rfl, ?_⟩
            rw [hPn hnp]
            exact Yy V.len V.old (.keep (.tup [] (by simp))) ⟨rfl, rfl⟩
          | succ c =>
            have t5' : tm 5 = .i ((c : Nat) : Int) := by rw [t5]; congr 1; omega
            have hge : ((c : Nat) : Int) ≥ 0 := by omega
            have hc1 : c < j := by omega
            have hc2 : c + 1 < j := by omega
            have hw1 : IntKind.i64.wrap ((c : Int) + 1) = ((c + 1 : Nat) : Int) := QP (by omega)
            have hw2 : IntKind.i64.wrap ((c : Int) - 1) = (c : Int) - 1 := Xp (by omega)
            by_cases hgt : σ.getD c 0 > σ.getD (c + 1) 0
            · repeat (first | ((first | (with_reducible refine Qm fun K E hK hE => ?_) | (refine Qt (id := 8) [(0, 0), (1, 0), (2, 0), (3, 0), (4, 0), (5, 0), (6, 0), (7, 0), (8, 0), (9, 0), (10, 0), (11, 0), (12, 0), (13, 0)] mixed (by kernel_rfl) fun K hK => ?_)); simp -implicitDefEqProofs only [Qg, Qh, OpW, aop, AS.ev, ↓reduceIte, QC, QD, Qz, aBin, ti3, ei49, t3, t5', hge, hc1, hc2, hw1, hw2, gi, gσ c hc1, gσ (c + 1) hc2, hgt, seval]) | (with_reducible (first | refine Qc fun K hK => ?_ | refine Qi ?_ | refine Qk ?_ | refine Qb ?_ | refine Qn ?_)) | ((with_reducible refine hK _ ?_); clear hK) | (refine Qf rfl ?_; simp only [↓reduceIte]))
              refine Q1.mk (m' := c) (by omega) ?_
              rw [hI]
              refine ⟨c, rfl, by omega, ?_, t0, t1, t3, rfl, rfl⟩
              rw [hpv, pivot, if_pos hgt]
            · have hpc : pivot σ (j - 1) = (c : Nat) := by rw [hpv, pivot, if_neg hgt]
              have hneg : ¬ ((c : Nat) : Int) < 0 := by omega
              have hsome := Qjp (l := σ) (i := c) (by rw [hσl]; exact hpc)
              rw [hσl] at hsome
              repeat (first | ((first | (with_reducible refine Qa fun K E hK hE => ?_) | (refine Qt (id := 8) [(0, 0), (1, 0), (2, 0), (3, 0), (4, 0), (5, 0), (6, 0), (7, 0), (8, 0), (9, 0), (10, 0), (11, 0), (12, 0), (13, 0)] mixed (by kernel_rfl) fun K hK => ?_)); simp -implicitDefEqProofs only [Qg, Qh, OpW, aop, AS.ev, ↓reduceIte, QC, QD, Qz, aBin, ti3, ei49, t1, t3, t5', hge, hneg, hc1, hc2, hw1, gi, gσ c hc1, gσ (c + 1) hc2, hgt, hn1, seval]) | (with_reducible (first | refine Qc fun K hK => ?_ | refine Qi ?_ | refine Qk ?_ | refine QB ?_ | refine Qb ?_ | refine Qw ?_ | refine Qv ?_)) | ((with_reducible refine hK _ ?_); clear hK) | (clear hK; (with_reducible refine hK _ ?_); clear hK) | (refine Qf rfl ?_; simp only [↓reduceIte, Qqw]))
              obtain ⟨I, hI⟩ : ∃ I : Nat → AS → Prop, I = fun m' s => ∃ q : Nat, m' = q ∧ c + 1 ≤ q ∧ q ≤ j - 1 ∧ above σ (σ.getD c 0) (j - 1) = above σ (σ.getD c 0) q ∧ s.tm 0 = fv ∧ s.tm 1 = .pin 1 [.i j] 0 0 ∧ s.tm 3 = .arr (m + L.length) 0 j ∧ s.tm 5 = .i c ∧ s.tm 6 = .i q ∧ s.h = H (g v σ) ++ (L ++ [.cells 3 1 (ints σ)]) := ⟨_, rfl⟩; refine QJ I ?_ (m := j - 1) ?_
              · intro m' s hs; rw [hI] at hs; obtain ⟨tm, hp⟩ := s; dsimp only at hs; obtain ⟨q, hmq, hq1, hq2, hab, t0, t1, t3, t5, t6, rfl⟩ := hs
                obtain ⟨q', rfl⟩ : ∃ q', q = q' + 1 := ⟨q - 1, by omega⟩
                have hqj : q' + 1 < j := by omega
                have hw3 : IntKind.i64.wrap (((q' + 1 : Nat) : Int) - 1) = ((q' : Nat) : Int) := by rw [Xp (by omega)]; omega
                by_cases hls : σ.getD (q' + 1) 0 < σ.getD c 0
                · have hne : q' + 1 ≠ c + 1 := fun e => by rw [e] at hls; exact hgt hls
                  repeat (first | ((first | (with_reducible refine Qm fun K E hK hE => ?_) | (refine Qt (id := 12) [(0, 0), (1, 0), (2, 0), (3, 0), (4, 0), (5, 0), (6, 0), (7, 0), (8, 0)] mixed (by kernel_rfl) fun K hK => ?_)); simp -implicitDefEqProofs only [Qg, Qh, OpW, aop, AS.ev, ↓reduceIte, QC, QD, Qz, aBin, ti3, ei49, t3, t5, t6, hqj, hc1, hw3, gi, gσ c hc1, gσ (q' + 1) hqj, hls, seval]) | (with_reducible (first | refine Qc fun K hK => ?_ | refine Qi ?_ | refine Qk ?_ | refine Qb ?_ | refine Qn ?_)) | ((with_reducible refine hK _ ?_); clear hK) | (refine Qf rfl ?_; simp only [↓reduceIte]))
                  refine Q1.mk (m' := q') (by omega) ?_
                  rw [hI]
                  exact ⟨q', rfl, by omega, by omega, by rw [hab, QmU hls], t0, t1, t3, t5, rfl, rfl⟩
                · rw [hab, Qji hls] at hsome
                  have hsw : ((ints σ).set c (.i (σ.getD (q' + 1) 0))).set (q' + 1) (.i (σ.getD c 0)) = ints ((σ.set c (σ.getD (q' + 1) 0)).set (q' + 1) (σ.getD c 0)) := by simp only [ints, List.map_set]
                  have gq2 : ((ints σ).set c (.i (σ.getD (q' + 1) 0)))[q' + 1]? = some (.i (σ.getD (q' + 1) 0)) := by rw [List.getElem?_set_ne (by omega)]; exact gσ _ hqj
                  generalize hB : (σ.set c (σ.getD (q' + 1) 0)).set (q' + 1) (σ.getD c 0) = B at hsome hsw
                  have hBl : B.length = j := by rw [← hB]; simp [hσl]
                  have hA : (B.take (c + 1)).length = c + 1 := by rw [List.length_take]; omega
                  have hD : (B.drop (c + 1)).length = j - (c + 1) := by rw [List.length_drop]; omega
                  have hr := rc (g v σ) (B.take (c + 1)) (B.drop (c + 1)) (by omega) (by omega)
                  rw [List.take_append_drop, hA, hD] at hr
                  have hlt2 : c + 1 < j := hc2
                  have hle2 : c + 1 ≤ j := by omega
                  have hsub : ((j : Int) - ((c + 1 : Nat) : Int)).toNat = j - (c + 1) := by omega
                  obtain ⟨k', hk1, hk2, hk3⟩ := hPs _ hsome
                  repeat (first | ((first | (with_reducible (first | refine Qm fun K E hK hE => ?_ | refine FunW.ret (FunW.call hr) ?_)) | (refine Qt (id := 12) [(0, 0), (1, 0), (2, 0), (3, 0), (4, 0), (5, 0), (6, 0), (7, 0), (8, 0)] mixed (by kernel_rfl) fun K hK => ?_) | (refine Qt (id := 14) [(0, 0), (1, 0), (2, 1), (3, 1), (4, 0), (5, 0), (6, 0), (7, 0), (8, 0), (9, 0), (10, 0), (11, 0), (12, 0), (13, 2), (14, 0), (15, 2)] mixed (by kernel_rfl) fun K hK => ?_)); simp -implicitDefEqProofs only [Qg, Qh, OpW, QI, aop, undef, AS.ev, AV.QpF, ↓reduceIte, QC, QD, QL, QF, Qz, aBin, Z7, Q7, ti3, ei49, Qrf, t3, t5, t6, hqj, hc1, hw1, gi, si, gσ c hc1, gσ (q' + 1) hqj, gq2, hls, hsw, hlt2, hle2, hsub, seval]) | (with_reducible (first | refine Qc fun K hK => ?_ | refine QB ?_ | refine Qb ?_ | refine Qw ?_ | refine Qn ?_ | refine Qv ?_)) | ((with_reducible refine hK _ ?_); clear hK) | (clear hK; (with_reducible refine hK _ ?_); clear hK) | (refine Qf rfl ?_; simp only [↓reduceIte, Qqw]))
                  refine Q1.mk (m' := k') (by omega) ?_
                  rw [hO]
                  refine ⟨k', _, g v σ, dn ++ [σ], rfl, hk2, by rw [List.foldl_append, ← hv]; rfl, hJ2, hk3, t0, t1, t3, rfl⟩
              · rw [hI]
                exact ⟨j - 1, rfl, by omega, Nat.le_refl _, rfl, t0, t1, t3, t5', rfl, rfl⟩
        · rw [hI]
          refine ⟨j - 1, rfl, Nat.le_refl _, rfl, t0, t1, t3, ?_, rfl⟩
          simp only [upd, ↓reduceIte]
          congr 1
          congr 1
          omega
      · rw [hI]
        exact ⟨720, nums j, u, [], rfl, rfl, rfl, hJ, QmC hn6, t0, t1, t3, rfl⟩
  · rw [hI]
    exact ⟨0, by omega, Nat.zero_le _, rfl, rfl, rfl, rfl, rfl, by simp [nums]⟩
end Go.Proofs.YtniljpjjnmkoaaaGreatDoor.Ab
namespace Go.Proofs.YtniljpjjnmkoaaaGreatDoor.Ab
theorem QgL {P : Program} {N : Nat} {x : Code} {Q : AExit → AS → Prop} {tm : Nat → AV} {h : AH} (id d k off : Nat) {ty s : Nat} {xs : List AV} (hb : h[id]? = some (.cells ty s xs)) (hd : tm d = .ptr id k off)
  (H : XC P N x Q ⟨upd tm d (.pin s xs k off), h.set id .dead⟩) : XC P N x Q ⟨tm, h⟩ := by
 intro F n base c a hF hst hr R hR
 have hh : c.h = h := hr.h
 subst hh
 have hev := Ev.kill hb
 have hst2 := hst.kill hb
 refine H F n base (c.kill id) a hF hst2 ⟨rfl, hr.size, hr.above, hr.defers.ev hev, RoundOk.ev hev hr.round, fun t => ?_⟩ R fun e' s' c' a' ex hq h1 h2 h3 h4 => hR e' s' c' a' ex hq (Ev.trans hst hev h1) h2 h3 h4
 show Rel (c.kill id) (if t = d then .pin s xs k off else tm t) _
 split
 ·rename_i ht
  subst ht
  have h0 := hr.tm t
  rw [show (AS.mk tm c.h).tm t = tm t from rfl, hd] at h0
  generalize a.tmps.getD t undef = u at h0
  cases h0 with
  | ptr _ _ _ x hid ho h1 =>
   obtain ⟨B, hρ, rfl⟩ := h1 _ _ _ hb
   obtain ⟨h4, f, h5⟩ := Qcj hst hb hρ
   have := Rel.pin (c := c.kill id) s xs k off B 0 f h4 (fun j a hj => (h5 j a hj).1) (fun j a hj => (h5 j a hj).2)
   rwa [Nat.zero_add] at this
 ·exact (hr.tm t).ev hst hev
end Go.Proofs.YtniljpjjnmkoaaaGreatDoor.Ab
set_option maxRecDepth 4000
namespace Go.Proofs.YtniljpjjnmkoaaaGreatDoor.Ab
open Go.Proofs
mutual
theorem T.Qqi (m : Int → Option Int) : ∀ t : T, (t.ren m).nds ≤ t.nds
 | .mk k i n l => by
  simp only [T.ren]
  split
  ·split
   ·simp only [T.nds, ndsL]; omega
   ·exact Nat.le_refl _
  ·split
   ·simp only [T.nds]; have := QaM m l; omega
   ·exact Nat.le_refl _
theorem QaM (m : Int → Option Int) : ∀ l : List T, ndsL (rens m l) ≤ ndsL l
 | [] => Nat.le_refl _
 | t :: l => by
  simp only [rens, ndsL]
  have := T.Qqi m t
  have := QaM m l
  omega
end
theorem QiU {a b : List G} (h : a.Perm b) : gsN a = gsN b := by
 induction h with
 | nil => rfl
 | cons x _ ih => simp only [gsN, ih]
 | swap x y l => simp only [gsN]; omega
 | trans _ _ h1 h2 => exact h1.trans h2
theorem QhC (m : Int → Option Int) : ∀ l : List G, gsN (l.map (G.ren m)) ≤ gsN l
 | [] => Nat.le_refl _
 | g :: l => by
  simp only [QqH, gsN, G.ren]
  have := QaM m g.args
  have := QhC m l
  omega
def ansG (n : Int) (c : Ct) (L σ : List Int) : Ct := ⟨rens (toMG n L σ) c.vals, Yq cmpG (c.store.map (G.ren (toMG n L σ)))⟩
def esR (n : Int) (σ : List Int) : Nat → List Int → List (Int × AV)
 | _, [] => []
 | k, v :: l => (v, .i (n + σ.getD k 0)) :: esR n σ (k + 1) l
theorem QhR (n : Int) (σ : List Int) (v : Int) : ∀ (L : List Int) (k : Nat), QaS v (esR n σ k L) = if v ∈ L then some (.i (n + σ.getD (k + plc L v) 0)) else none
 | [], k => rfl
 | a :: l, k => by
  show (if v = a then some (AV.i (n + σ.getD k 0)) else QaS v (esR n σ (k + 1) l)) = _
  rw [QhR n σ v l (k + 1)]
  by_cases e : v = a
  ·subst e; simp [plc]
  ·have e' : ¬ a = v := fun q => e q.symm
   have : k + 1 + plc l v = k + (plc l v + 1) := by omega
   rw [if_neg e]
   simp only [List.mem_cons, e, false_or, plc, e', ↓reduceIte, this]
theorem Qnc (n : Int) (L σ : List Int) (v : Int) : QaS v (esR n σ 0 L) = (toMG n L σ v).map fun x => AV.i x := by
 rw [QhR, Nat.zero_add]; unfold toMG; split <;> rfl
theorem Qi8 (n : Int) (σ : List Int) (v : Int) : ∀ (L : List Int) (k : Nat), esR n σ k (L ++ [v]) = esR n σ k L ++ [(v, .i (n + σ.getD (k + L.length) 0))]
 | [], k => rfl
 | a :: l, k => by
  simp only [QqU, esR, Qi8 n σ v l (k + 1), QqF]
  have : k + 1 + l.length = k + (l.length + 1) := by omega
  rw [this]
def Zh : Option Ct → AV
 | none => .v (.pointer none)
 | some d => .pin 3 [(An.mk false d.vals d.store).av] 0 0
def QhI (b : Option Ct) (a : Ct) : Option Ct := match b with
 | none => some a
 | some d => if cmpA a d < 0 then some a else some d
theorem Qez (d : Ct) : ∀ l : List Ct, l.foldl QhI (some d) = some (YY cmpA d l)
 | [] => rfl
 | a :: l => by
  rw [List.foldl_cons, Qa9]
  show l.foldl QhI (if cmpA a d < 0 then some a else some d) = _
  split <;> exact Qez _ l
def esS (n : Int) (L : List Int) : Option (List Int) → List (Int × AV)
 | none => []
 | some σ => esR n σ 0 L
def QaT (n : Int) (c : Ct) (L : List Int) (s : Option Ct × Option (List Int)) (σ : List Int) : Option Ct × Option (List Int) := (QhI s.1 (ansG n c L σ), some σ)
theorem Qhv (n : Int) (σ : List Int) (m : Nat) : ∀ (L : List Int) (k : Nat), ∀ kv ∈ esR n σ k L, Below m kv.2
 | [], k, kv, h => by simp [esR] at h
 | a :: l, k, kv, h => by
  simp only [esR, List.mem_cons] at h
  rcases h with rfl | h
  ·exact .v _
  ·exact Qhv n σ m l (k + 1) kv h
def X1 (n : Int) (c : Ct) (L : List Int) : Ct := match Xz 720 (nums L.length) with
 | e :: E => YY cmpA (ansG n c L e) (E.map (ansG n c L))
 | [] => c
theorem Qgi (n : Int) (c : Ct) (L : List Int) : ∀ (l : List (List Int)) (s : Option Ct × Option (List Int)), (l.foldl (QaT n c L) s).1 = (l.map (ansG n c L)).foldl QhI s.1
 | [], s => rfl
 | σ :: l, s => by rw [List.foldl_cons, Qgi n c L l, List.map_cons, List.foldl_cons]; rfl
theorem QjN (n : Int) (c : Ct) (L : List Int) : ((Xz 720 (nums L.length)).foldl (QaT n c L) (none, none)).1 = some (X1 n c L) := by
 rw [Qgi, X1]
 cases h : Xz 720 (nums L.length) with
 | nil =>
  have q := QcY 720 (nums L.length)
  rw [h] at q; cases q
 | cons e E => rw [List.map_cons, List.foldl_cons]; exact Qez _ _
theorem QkZ {P M : AH} {X X' b Y Y' row : AB} {id : Nat} (hX : X ≠ row) (hY : Y ≠ row) (h : (P ++ X :: b :: Y :: M)[id]? = some row) : (P ++ X' :: b :: Y' :: M)[id]? = some row := by
 by_cases h1 : id < P.length
 ·rw [List.getElem?_append_left h1] at h ⊢; exact h
 ·rw [List.getElem?_append_right (by omega)] at h ⊢
  generalize id - P.length = j at h ⊢
  match j, h with
  | 0, h => simp only [Qqs, Qqy] at h; exact absurd h hX
  | 1, h => exact h
  | 2, h => simp only [Qqt, Qqs, Qqy] at h; exact absurd h hY
  | j + 3, h => exact h
theorem QmV {n : Nat} {σ : List Int} (hσ : σ.Perm (nums n)) {k : Nat} (hk : k < n) : 0 ≤ σ.getD k 0 ∧ σ.getD k 0 < n := by
 have hl : k < σ.length := by rw [hσ.length_eq, nums_length]; exact hk
 rw [getD_lt hl]
 obtain ⟨j, hj, e⟩ := QaI.1 (hσ.mem_iff.1 (List.getElem_mem hl))
 omega
def X4 (h : AH) (c : Ct) (n : Int) (L : List Int) (i0 : LoopA) (s : Option Ct × Option (List Int)) : AH :=
 h ++ [.cells 76 2 [c.av], .cells 3 1 [.i n], .cells 49 1 [.sl 1 (ints L) none], .cells 32 3 [.agg [.v (.bool false), .v (.slice none 0 0), .v (.slice none 0 0)]], .cells 114 1 [Zh s.1], .map (imap (esS n L s.2)), .cells 115 1 [.mp (h.length + 5)], .loop i0]
theorem XV (h : AH) (c : Ct) (n : Int) (L : List Int) (i0 : LoopA) (s : Option Ct × Option (List Int)) : (X4 h c n L i0 s).length = h.length + 8 := by simp [X4]
theorem Qj0 {m : Nat} {es : List (Int × AV)} (h : ∀ kv ∈ es, Below m kv.2) : (AB.map (imap es)).Below m := fun kv hkv => by
 simp only [imap, List.mem_map] at hkv
 obtain ⟨x, hx, rfl⟩ := hkv
 exact h x hx
theorem Qel (h : AH) (c : Ct) (n : Int) (L : List Int) (i0 : LoopA) (s s' : Option Ct × Option (List Int)) (i : Nat) (b : AB) (hb : (X4 h c n L i0 s')[i]? = some b) : (X4 h c n L i0 s)[i]? = some b ∨ b.Below (h.length + 8) := by
 rcases Nat.lt_or_ge i h.length with hi | hi
 ·unfold X4 at hb ⊢
  rw [List.getElem?_append_left hi] at hb
  exact .inl (by rw [List.getElem?_append_left hi]; exact hb)
 ·obtain ⟨k, rfl⟩ : ∃ k, i = h.length + k := ⟨i - h.length, by omega⟩
  unfold X4 at hb ⊢
  rw [hget] at hb ⊢
  match k, hb with
  | 0, hb => exact .inl hb
  | 1, hb => exact .inl hb
  | 2, hb => exact .inl hb
  | 3, hb => exact .inl hb
  | 4, hb =>
   simp only [Qqt, Qqs, Qqy] at hb
   subst hb
   refine .inr fun a ha => ?_
   simp only [flat, List.flatMap_cons, List.flatMap_nil, QqV] at ha
   cases hs : s'.1 with
   | none => rw [hs] at ha; simp only [Zh, AV.cells, List.mem_singleton] at ha; subst ha; exact .v _
   | some d =>
    rw [hs] at ha
    simp only [Zh, AV.cells, List.mem_singleton] at ha
    subst ha
    refine .pin _ _ _ _ fun a ha => ?_
    simp only [flat, List.flatMap_cons, List.flatMap_nil, QqV, An.cells, List.mem_cons, List.not_mem_nil, or_false] at ha
    rcases ha with rfl | rfl | rfl
    ·exact .v _
    ·exact X0 _ _
    ·exact QaQ _ _ _ (Qay _) _
  | 5, hb =>
   simp only [Qqt, Qqs, Qqy] at hb
   subst hb
   refine .inr (Qj0 fun kv hkv => ?_)
   cases hs : s'.2 with
   | none => rw [hs] at hkv; simp [esS] at hkv
   | some σ => rw [hs] at hkv; exact Qhv _ _ _ _ _ kv hkv
  | 6, hb => exact .inl hb
  | 7, hb => exact .inl hb
  | k + 8, hb => simp at hb
theorem Qif {X Y D : AH} {r : AV} {Q : AV → AH → Prop} (hl : X.length = Y.length) (ho : ∀ (i : Nat) b, Y[i]? = some b → X[i]? = some b ∨ b.Below Y.length) (hr : Below Y.length r) (hq : Q r Y) : Leaves X (Y ++ D) r Q :=
 .inl ⟨Y.length, r, by omega, by simp, .inr fun i b hb => ho i b (by rw [List.take_left] at hb; exact hb), .keep hr, by rw [List.take_left]; exact hq⟩
theorem ZF (h : AH) (c : Ct) (n : Int) (L : List Int) (i0 : LoopA) (s s' : Option Ct × Option (List Int)) (M D : AH) {Q : AV → AH → Prop} (hq : Q (.b true) (X4 h c n L i0 s' ++ M)) : Leaves (X4 h c n L i0 s ++ M) (X4 h c n L i0 s' ++ M ++ D) (.b true) Q := by
 refine Qif (by rw [List.length_append, List.length_append, XV, XV]) (fun i b hb => ?_) (.v _) hq
 rcases Nat.lt_or_ge i (h.length + 8) with hi | hi
 ·rw [List.getElem?_append_left (by rw [XV]; exact hi)] at hb
  rcases Qel h c n L i0 s s' i b hb with h1 | h1
  ·exact .inl (by rw [List.getElem?_append_left (by rw [XV]; exact hi)]; exact h1)
  ·exact .inr (h1.mono (by rw [List.length_append, XV]; omega))
 ·rw [List.getElem?_append_right (by rw [XV]; exact hi), XV] at hb
  exact .inl (by rw [List.getElem?_append_right (by rw [XV]; exact hi), XV]; exact hb)
theorem An.below (m : Nat) (a : An) : Below m a.av := .agg _ fun x hx => by
 simp only [List.mem_cons, List.not_mem_nil, or_false] at hx
 rcases hx with rfl | rfl | rfl
 ·exact .v _
 ·exact X0 _ _
 ·exact QaQ _ _ _ (Qay _) _
theorem Qjg (c : Ct) (n : Int) (L : List Int) (hn : 0 ≤ n ∧ n ≤ 1000) (hL : L.length ≤ 6) (hLn : L.Nodup) (hv : ndsL c.vals ≤ 1000000) (hs : gsN c.store ≤ 1000000) (hk12 : c.store.length ≤ 12) :
  Pure Tryz.prog 40 [c.av, .i n, .sl 1 (ints L) none] (An.mk false (X1 n c L).vals (X1 n c L).store).av := by
 intro h
 have cp := Qb6 L.length
 refine Qe Tryz.func40 rfl Tryz.call40 Tryz.ntmps40 (congrArg Array.toList Tryz.results40) (by simp) ?_
 repeat (first | ((first | (with_reducible (first | refine Qa fun K E hK hE => ?_ | refine Qq cp ?_))); simp -implicitDefEqProofs only [Qg, Qh, OpW, QI, aop, undef, AS.ev, Qy, AV.QpF, ↓reduceIte, QC, QD, QL, QF, aLen, goInt, zi32, ti49, un49, Qpw, Qfm, QpA, Ct.cells, seval]) | (with_reducible (first | refine Qc fun K hK => ?_ | refine Qi ?_)) | ((with_reducible refine hK _ ?_); clear hK))
 refine ZU rfl ?_
 simp -implicitDefEqProofs only [Qg, Nat.reduceAdd]
 generalize hi0 : LoopA.mk _ _ _ _ _ _ _ = i0
 have hat : ∀ a b, (i0.at a b).at .ready none = i0 := fun a b => by rw [← hi0]; rfl
 have V : VisP (.mp (h.length + 7)) (X4 h c n L i0) (QaT n c L) (fun _ => True) L.length (h.length + 8) := by
  refine ⟨fun s => XV .., fun sb σ a M _ hσ ha => ?_, fun _ _ _ _ => trivial, fun s s' i b hb => ?_⟩
  ·refine Qid ?_
   refine Qeu (i := i0) (by unfold X4; rw [happ, hget]; rfl) (by rw [← hi0]; rfl) (fun t ht => by rw [← hi0] at ht ⊢; simp at ht; subst ht; show (17 : Nat) < 51; omega) ?_
   unfold X4
   rw [← hi0]
   dsimp only
   rw [hi0]
   simp only [updL, happ]
   repeat (first | (((with_reducible refine Qm fun K E hK hE => ?_)); simp -implicitDefEqProofs only [Qg, Qh, OpW, aop, AS.ev, ↓reduceIte, Nat.reduceLT]) | ((with_reducible refine hK _ ?_); clear hK))
   refine ⟨i0, by rw [hget]; rfl, by rw [← hi0], ?_⟩
   simp -implicitDefEqProofs only [Qg]
   repeat (first | (((with_reducible refine Qa fun K E hK hE => ?_)); simp -implicitDefEqProofs only [Qg, Qh, OpW, aop, AS.ev, ↓reduceIte, QC, QD, aLen, goInt, ti49, un49, Qfm, Qpr, QeS, seval]) | (with_reducible (first | refine Qc fun K hK => ?_ | refine Qi ?_)) | ((with_reducible refine hK _ ?_); clear hK))
   have hσl : σ.length = L.length := by rw [hσ.length_eq, nums_length]
   have hmem : ∀ g ∈ c.store.map (G.ren (toMG n L σ)), ndsL g.args ≤ 1000000 := fun g hg => by
    obtain ⟨x, hx, rfl⟩ := List.mem_map.1 hg
    obtain ⟨k, hk, rfl⟩ := List.getElem_of_mem hx
    have h1 := QbU hk
    have h2 := QaM (toMG n L σ) (c.store[k]).args
    simp only [G.ren]; omega
   have rcall : ∀ (bv : AV) (lp : LoopA) (T : AH), Q4 Tryz.prog 79 [c.av, .mp (h.length + 5)] (h ++ AB.cells 76 2 [c.av] :: AB.cells 3 1 [AV.i n] :: AB.cells 49 1 [AV.sl 1 (ints L) none] :: AB.cells 32 3 [AV.agg [AV.v (.bool false), AV.v (.slice none 0 0), AV.v (.slice none 0 0)]] :: AB.cells 114 1 [bv] :: AB.map (imap (esR n σ 0 L)) :: AB.cells 115 1 [AV.mp (h.length + 5)] :: AB.loop lp :: T) fun o h' => o = .ret (An.mk false (ansG n c L σ).vals (ansG n c L σ).store).av ∧ h' = h ++ AB.cells 76 2 [c.av] :: AB.cells 3 1 [AV.i n] :: AB.cells 49 1 [AV.sl 1 (ints L) none] :: AB.cells 32 3 [AV.agg [AV.v (.bool false), AV.v (.slice none 0 0), AV.v (.slice none 0 0)]] :: AB.cells 114 1 [bv] :: AB.map (imap (esR n σ 0 L)) :: AB.cells 115 1 [AV.mp (h.length + 5)] :: AB.loop lp :: T := fun bv lp T =>
    Qgu (Qnc n L σ) c hv hs hk12 hmem _ (by rw [hget]; rfl)
   have hcA : ndsL (ansG n c L σ).vals ≤ 1000000 := Nat.le_trans (QaM _ _) hv
   have hcS : gsN (ansG n c L σ).store ≤ 1000000 := by
    show gsN (Yq cmpG _) ≤ _
    rw [QiU (XJ cmpG _)]
    exact Nat.le_trans (QhC _ _) hs
   obtain ⟨I, hI⟩ : ∃ I : Nat → AS → Prop, I = fun m' s => ∃ k : Nat, m' = L.length - k ∧ k ≤ L.length ∧ s.tm 3 = .ptr h.length 0 0 ∧ s.tm 4 = .ptr (h.length + 1) 0 0 ∧ s.tm 7 = .ptr (h.length + 4) 0 0 ∧ s.tm 8 = .ptr (h.length + 6) 0 0 ∧ s.tm 9 = a ∧ s.tm 19 = .sl 1 (ints L) none ∧ s.tm 20 = .i L.length ∧ s.tm 21 = .i k ∧
     s.h = h ++ AB.cells 76 2 [c.av] :: AB.cells 3 1 [AV.i n] :: AB.cells 49 1 [AV.sl 1 (ints L) none] :: AB.cells 32 3 [AV.agg [AV.v (.bool false), AV.v (.slice none 0 0), AV.v (.slice none 0 0)]] :: AB.cells 114 1 [Zh sb.fst] :: AB.map (imap (esR n σ 0 (L.take k))) :: AB.cells 115 1 [AV.mp (h.length + 5)] :: AB.loop (i0.at .busy i0.pend) :: M := ⟨_, rfl⟩; refine QJ I ?_ (m := L.length) ?_
   ·intro m' s hs; rw [hI] at hs; obtain ⟨tm, hp⟩ := s; dsimp only at hs; obtain ⟨k, rfl, hk, t3, t4, t7, t8, t9, t19, t20, t21, rfl⟩ := hs
    by_cases hlt : k < L.length
    ·obtain ⟨id, ea, hid⟩ : ∃ id, a = .arr id 0 L.length ∧ (X4 h c n L i0 sb ++ M)[id]? = some (.cells 3 1 (ints σ)) := ha.resolve_left (by omega)
     subst ea
     have hid2 : ∀ (es : List (Int × AV)) (lp : LoopA), (h ++ AB.cells 76 2 [c.av] :: AB.cells 3 1 [AV.i n] :: AB.cells 49 1 [AV.sl 1 (ints L) none] :: AB.cells 32 3 [AV.agg [AV.v (.bool false), AV.v (.slice none 0 0), AV.v (.slice none 0 0)]] :: AB.cells 114 1 [Zh sb.fst] :: AB.map (imap es) :: AB.cells 115 1 [AV.mp (h.length + 5)] :: AB.loop lp :: M)[id]? = some (.cells 3 1 (ints σ)) := fun es lp => by
      have h1 := QkZ (row := AB.cells 3 1 (ints σ)) (P := h ++ [AB.cells 76 2 [c.av], AB.cells 3 1 [AV.i n], AB.cells 49 1 [AV.sl 1 (ints L) none], AB.cells 32 3 [AV.agg [AV.v (.bool false), AV.v (.slice none 0 0), AV.v (.slice none 0 0)]], AB.cells 114 1 [Zh sb.fst]]) (X' := AB.map (imap es)) (Y' := AB.loop lp) (M := M) (b := AB.cells 115 1 [AV.mp (h.length + 5)]) (X := AB.map (imap (esS n L sb.snd))) (Y := AB.loop i0) (by nofun) (by nofun) (id := id) (by
       rw [X4] at hid; simpa using hid)
      simpa using h1
     have hσk := QmV hσ hlt
     have hw1 : IntKind.i64.wrap (n + σ.getD k 0) = n + σ.getD k 0 := Xp (by omega)
     have hgo : (ints σ)[k]? = some (.i (σ.getD k 0)) := by rw [YA (by omega), getD_lt (by omega)]
     have hfr : QaS L[k] (esR n σ 0 (L.take k)) = none := by
      rw [QhR, if_neg]
      intro hq
      obtain ⟨j, hj, e⟩ := List.getElem_of_mem hq
      rw [List.length_take] at hj
      rw [List.getElem_take] at e
      have := (List.nodup_iff_pairwise_ne.1 hLn)
      rw [List.pairwise_iff_getElem] at this
      exact this j k (by omega) hlt (by omega) e
     have hup : updA (.int .i64) (.int .i64 L[k]) (.i (n + σ.getD k 0)) (imap (esR n σ 0 (L.take k))) = some (imap (esR n σ 0 (L.take (k + 1)))) := by
      rw [QcM _ _ _ hfr, List.take_succ_eq_append_getElem hlt, Qi8, List.length_take, Nat.zero_add, Nat.min_eq_left (by omega)]
     repeat (first | ((first | (with_reducible (first | refine Qa fun K E hK hE => ?_ | refine Qm fun K E hK hE => ?_)) | (refine QH (id := 9) [(0, 0), (1, 0), (2, 0), (3, 0), (4, 0), (5, 0), (6, 0), (7, 0), (8, 2)] mixed (by kernel_rfl) fun K hK => ?_)); simp -implicitDefEqProofs only [Qg, Qh, OpW, aop, undef, AS.ev, ↓reduceIte, QC, QD, Qz, aBin, X7, ti3, ei49, Qfm, Qjo, t4, t8, t9, t19, t20, t21, hlt, YA hlt, hid2, hgo, hw1, hup, seval]) | (with_reducible (first | refine Qc fun K hK => ?_ | refine Qi ?_ | refine Qk ?_ | refine Qb ?_ | refine Qn ?_)) | ((with_reducible refine hK _ ?_); clear hK) | (refine Qf rfl ?_; simp only [↓reduceIte]))
     refine Q1.mk (m' := L.length - (k + 1)) (by omega) ?_
     rw [hI]
     refine ⟨k + 1, rfl, hlt, t3, t4, t7, t8, t9, t19, t20, ?_, rfl⟩
     simp only [upd, ↓reduceIte]
     rw [QP (by omega)]
    ·have hkl : k = L.length := by omega
     subst hkl
     rw [List.take_length]
     repeat (first | ((first | (with_reducible (first | refine Qa fun K E hK hE => ?_ | refine FunW.ret (FunW.call (rcall _ _ _)) ?_))); simp -implicitDefEqProofs only [Qg, Qh, OpW, QI, aop, undef, AS.ev, AV.QpF, ↓reduceIte, QC, QD, QL, QF, aBin, ti32, zi32, ti76, Qfm, An.cells, An.isAgg, Ct.cells, Ct.isAgg, t3, t8, t20, t21, hlt, seval]) | (with_reducible (first | refine Qc fun K hK => ?_ | refine QB ?_ | refine Qb ?_ | refine Qw ?_ | refine Qv ?_)) | ((with_reducible refine hK _ ?_); clear hK) | (clear hK; (with_reducible refine hK _ ?_); clear hK) | (refine Qf rfl ?_; simp only [↓reduceIte, Qqw]))
     refine QgL (h.length + (M.length + 8)) 12 0 0 (ty := 32) (s := 3) (xs := [(An.mk false (ansG n c L σ).vals (ansG n c L σ).store).av]) (by rw [hget]; simp) rfl ?_
     simp -implicitDefEqProofs only [Qks, hset, QqW, QqX]
     have hU : (Tryz.prog).underlying 114 = some (.pointer 32) := by kernel_rfl
     have hNN : ∀ (hx : AH) (s : Nat) (xs : List AV) (k o : Nat), notNil Tryz.prog 114 hx (.pin s xs k o) (.pointer none) = true := fun hx s xs k o => by simp only [notNil, hU]
     have hNil : ∀ xo : Operand, pv Tryz.prog (do eqGuard .eql 114 xo (.const (.pointer none)) (.pointer none) (.pointer none); binOp .eql 114 (.pointer none) (.pointer none)) = some (.bool true) := fun xo => by kernel_rfl
     have hcmp : ∀ d : Ct, Zn (An.mk false (ansG n c L σ).vals (ansG n c L σ).store) (An.mk false d.vals d.store) = cmpA (ansG n c L σ) d := fun d => rfl
     cases hb : sb.fst with
     | none =>
      repeat (first | ((first | (with_reducible refine Qm fun K E hK hE => ?_) | (refine QH (id := 12) [(0, 0), (1, 0), (2, 0), (3, 0), (4, 0), (5, 0), (6, 0), (7, 1), (8, 0), (9, 0)] mixed (by kernel_rfl) fun K hK => ?_)); simp -implicitDefEqProofs only [Qg, Qh, OpW, aop, undef, AS.ev, AV.QpF, ↓reduceIte, QC, QD, QL, QF, aBin, Qmq, t7, Zh, hNil, seval]) | (with_reducible (first | refine Qb ?_ | refine Qn ?_)) | ((with_reducible refine hK _ ?_); clear hK) | (refine Qf rfl ?_; simp only [↓reduceIte]))
      refine ⟨i0.at .busy i0.pend, by rw [hget]; rfl, ?_⟩
      simp -implicitDefEqProofs only [hset, QqW, QqX, hat]
      refine ⟨.b true, rfl, ?_⟩
      have hlv := ZF h c n L i0 sb (QaT n c L sb σ) M [AB.dead] (Q := fun r h'' => AOut.ret r = AOut.ret (.b true) ∧ h'' = X4 h c n L i0 (QaT n c L sb σ) ++ M) ⟨rfl, rfl⟩
      have est : QaT n c L sb σ = (some (ansG n c L σ), some σ) := by simp only [QaT, QhI, hb]
      rw [est] at hlv ⊢
      simp only [X4, esS, Zh, hb, List.append_assoc, QqU, QqT] at hlv ⊢
      exact hlv
     | some d =>
      have cc := YR (An.mk false (ansG n c L σ).vals (ansG n c L σ).store) (An.mk false d.vals d.store) hcA hcS
      rw [hcmp] at cc
      by_cases hlt0 : cmpA (ansG n c L σ) d < 0
      ·repeat (first | ((first | (with_reducible (first | refine Qm fun K E hK hE => ?_ | refine Qu cc ?_)) | (refine QH (id := 12) [(0, 0), (1, 0), (2, 0), (3, 0), (4, 0), (5, 0), (6, 0), (7, 1), (8, 0), (9, 0)] mixed (by kernel_rfl) fun K hK => ?_)); simp -implicitDefEqProofs only [Qg, Qh, OpW, aop, undef, AS.ev, AV.QpF, ↓reduceIte, QC, QD, QL, QF, aBin, ti32, Qmq, QM, An.cells, An.isAgg, t7, Zh, hlt0, hNN, seval]) | (with_reducible (first | refine Qb ?_ | refine Qn ?_)) | ((with_reducible refine hK _ ?_); clear hK) | (refine Qf rfl ?_; simp only [↓reduceIte]))
       refine ⟨i0.at .busy i0.pend, by rw [hget]; rfl, ?_⟩
       simp -implicitDefEqProofs only [hset, QqW, QqX, hat]
       refine ⟨.b true, rfl, ?_⟩
       have hlv := ZF h c n L i0 sb (QaT n c L sb σ) M [AB.dead] (Q := fun r h'' => AOut.ret r = AOut.ret (.b true) ∧ h'' = X4 h c n L i0 (QaT n c L sb σ) ++ M) ⟨rfl, rfl⟩
       have est : QaT n c L sb σ = (some (ansG n c L σ), some σ) := by simp only [QaT, QhI, hb, hlt0, ↓reduceIte]
       rw [est] at hlv ⊢
       simp only [X4, esS, Zh, hb, List.append_assoc, QqU, QqT] at hlv ⊢
       exact hlv
      ·repeat (first | ((first | (with_reducible refine Qu cc ?_) | (refine QH (id := 12) [(0, 0), (1, 0), (2, 0), (3, 0), (4, 0), (5, 0), (6, 0), (7, 1), (8, 0), (9, 0)] mixed (by kernel_rfl) fun K hK => ?_)); simp -implicitDefEqProofs only [Qg, Qh, aop, AS.ev, ↓reduceIte, QC, QD, aBin, ti32, Qmq, QM, An.cells, An.isAgg, t7, Zh, hlt0, hNN, seval]) | (with_reducible (first | refine Qk ?_ | refine Qb ?_ | refine Qn ?_)) | ((with_reducible refine hK _ ?_); clear hK) | (refine Qf rfl ?_; simp only [↓reduceIte, Qqw]))
       refine ⟨i0.at .busy i0.pend, by rw [hget]; rfl, ?_⟩
       simp -implicitDefEqProofs only [hset, QqW, QqX, hat]
       refine ⟨.b true, rfl, ?_⟩
       have hlv := ZF h c n L i0 sb (QaT n c L sb σ) M [AB.dead] (Q := fun r h'' => AOut.ret r = AOut.ret (.b true) ∧ h'' = X4 h c n L i0 (QaT n c L sb σ) ++ M) ⟨rfl, rfl⟩
       have est : QaT n c L sb σ = (some d, some σ) := by simp only [QaT, QhI, hb, hlt0, ↓reduceIte]
       rw [est] at hlv ⊢
       simp only [X4, esS, Zh, hb, List.append_assoc, QqU, QqT] at hlv ⊢
       exact hlv
   ·rw [hI]
    exact ⟨0, by omega, Nat.zero_le _, rfl, rfl, rfl, rfl, rfl, rfl, rfl, rfl, rfl⟩
  ·exact Qel h c n L i0 s s' i b hb
 have hcall : Q4 Tryz.prog 121 [.mp (h.length + 7), .pin 1 [.i L.length] 0 0] (X4 h c n L i0 (none, none)) fun o h' => o = .ret (.tup []) ∧ h' = X4 h c n L i0 ((Xz 720 (nums L.length)).foldl (QaT n c L) (none, none)) := by
  by_cases h0 : 0 < L.length
  ·have := QhB V h0 hL (none, none) [] trivial
   simpa only [QqV] using this
  ·have h00 : L.length = 0 := by omega
   have V0 := V
   rw [h00] at V0
   have := QjK V0 (none, none) [] trivial
   rw [h00]
   simpa only [QqV] using this
 refine hcall.mono ?_
 rintro o h' ⟨rfl, rfl⟩
 have hne : i0.st ≠ .busy := by
  have hst : i0.st = .ready := by rw [← hi0]
  rw [hst]
  exact fun hq => by cases hq
 have hlf := QjN n c L
 unfold X4
 rw [hlf]
 refine ⟨i0, by rw [hget]; rfl, hne, ?_⟩
 have hp : i0.pend = none := by rw [← hi0]
 rw [hp]
 rw [Qgl]
 simp -implicitDefEqProofs only [Qg, Zh]
 repeat (first | (((with_reducible refine Qa fun K E hK hE => ?_)); simp -implicitDefEqProofs only [Qg, Qh, OpW, aop, undef, AS.ev, AV.QpF, ↓reduceIte, QC, QD, QL, QF, ti32, Qmq, QM, An.cells, An.isAgg, seval]) | (with_reducible refine Qj ?_) | ((with_reducible refine hK _ ?_); clear hK))
 simp -implicitDefEqProofs only [Qg, ↓reduceIte, QC, QD, ti32, An.cells, An.isAgg, QE, Ql, Qr, QqC, seval]
 exact Qd (htake _ _) (.keep (An.below _ _)) ⟨rfl, rfl⟩
end Go.Proofs.YtniljpjjnmkoaaaGreatDoor.Ab
set_option maxRecDepth 4000
namespace Go.Proofs.YtniljpjjnmkoaaaGreatDoor.Ab
open Go.Proofs
def Z5 (x : It) : Bool := !rightAtomB x.atom
theorem Qmt (x : It) : Pure Tryz.prog 32 [x.av] (.b (Z5 x)) := by
 intro h
 have c1 : Pure Tryz.prog 33 [.agg [.v (.string x.atom.name), .sl 4 (avs x.atom.args) none]] (.b (rightAtomB x.atom)) := YC x.atom
 refine Qe Tryz.func32 rfl Tryz.call32 Tryz.ntmps32 (congrArg Array.toList Tryz.results32) (by simp) ?_
 repeat (first | ((first | (with_reducible (first | refine Qa fun K E hK hE => ?_ | refine Qq c1 ?_))); simp -implicitDefEqProofs only [Qg, Qh, OpW, QI, aop, undef, AS.ev, Qy, AV.QpF, ↓reduceIte, Qp, QC, QD, ti45, Qgo, It.cells, It.isAgg, seval]) | (with_reducible refine Qj ?_) | ((with_reducible refine hK _ ?_); clear hK))
 simp only [QE, Ql, Qr, upd, ↓reduceIte, Qqy, QqC]; first | refine Qd (htake _ _) (.keep (.v _)) ⟨rfl, rfl⟩ | refine Qd List.take_length (.keep (.v _)) ⟨rfl, rfl⟩
def idxB (p : It → Bool) : List It → Option Nat
 | [] => none
 | a :: l => if p a = true then some 0 else (idxB p l).map (· + 1)
theorem QiP (p : It → Bool) : ∀ l : List It, (idxB p l).isSome = l.any p
 | [] => rfl
 | a :: l => by
  simp only [idxB, List.any_cons]
  cases h : p a with
  | true => simp
  | false => simp [QiP p l]
def Qik (p : It → Bool) (l : List It) : Int := match idxB p l with | some i => i | none => -1
theorem Qjn (l : List It) (hb : l.length ≤ 1000000) : Pure Tryz.prog 72 [.sl 3 (vs It.av l) none, .fn (.func 32) [] []] (.i (Qik Z5 l)) := by
 intro h
 refine Qe Tryz.func72 rfl Tryz.call72 Tryz.ntmps72 (congrArg Array.toList Tryz.results72) (by simp) ?_
 repeat (first | (((with_reducible refine Qa fun K E hK hE => ?_)); simp -implicitDefEqProofs only [Qg, Qh, OpW, aop, undef, AS.ev, Qy, ↓reduceIte, aLen, goInt, un24, QN, seval]) | (with_reducible (first | refine Qc fun K hK => ?_ | refine Qi ?_)) | ((with_reducible refine hK _ ?_); clear hK))
 obtain ⟨I, hI⟩ : ∃ I : Nat → AS → Prop, I = fun m' s => ∃ j : Nat, m' = l.length - j ∧ j ≤ l.length ∧ idxB Z5 l = (idxB Z5 (l.drop j)).map (· + j) ∧ s.tm 0 = .sl 3 (vs It.av l) none ∧ s.tm 1 = .fn (.func 32) [] [] ∧ s.tm 7 = .i l.length ∧ s.tm 8 = .i j ∧ s.h = h := ⟨_, rfl⟩; refine QJ I ?_ (m := l.length) ?_
 ·intro m' s hs; rw [hI] at hs; obtain ⟨tm, hp⟩ := s; dsimp only at hs; obtain ⟨j, rfl, hj, he, t0, t1, t7, t8, rfl⟩ := hs
  by_cases hlt : j < l.length
  ·rw [List.drop_eq_getElem_cons hlt] at he
   simp only [idxB] at he
   have hc := Qmt l[j]
   cases hz : Z5 l[j] with
   | true =>
    rw [if_pos hz] at he
    rw [hz] at hc
    repeat (first | ((first | (with_reducible (first | refine Qa fun K E hK hE => ?_ | refine Qq hc ?_))); simp -implicitDefEqProofs only [Qg, Qh, OpW, QI, aop, AS.ev, ↓reduceIte, QC, QD, Qz, aBin, ei24, ti48, t0, t1, t7, t8, hlt, QN, XN It.av hlt, It.cells, It.isAgg, seval]) | (with_reducible (first | refine Qc fun K hK => ?_ | refine Qi ?_ | refine Qj ?_ | refine Qk ?_ | refine Qb ?_ | refine Qo ?_ | refine Qs ?_)) | ((with_reducible refine hK _ ?_); clear hK) | (refine Qf rfl ?_; simp only [↓reduceIte]))
    simp only [QE, Ql, Qr, upd, ↓reduceIte, Qqy, QqC]
    exact Qd List.take_length (.keep (.v _)) ⟨by simp [Qik, he], rfl⟩
   | false =>
    rw [if_neg (by rw [hz]; decide)] at he
    rw [hz] at hc
    repeat (first | ((first | (with_reducible (first | refine Qa fun K E hK hE => ?_ | refine Qm fun K E hK hE => ?_ | refine Qq hc ?_))); simp -implicitDefEqProofs only [Qg, Qh, OpW, QI, aop, AS.ev, ↓reduceIte, QC, QD, Qz, aBin, ei24, ti48, t0, t1, t7, t8, hlt, QN, XN It.av hlt, It.cells, It.isAgg, seval]) | (with_reducible (first | refine Qc fun K hK => ?_ | refine Qi ?_ | refine Qk ?_ | refine Qb ?_ | refine Qn ?_)) | ((with_reducible refine hK _ ?_); clear hK) | (refine Qf rfl ?_; simp only [↓reduceIte, Qqw]))
    refine Q1.mk (m' := l.length - (j + 1)) (by omega) ?_
    rw [hI]
    refine ⟨j + 1, rfl, hlt, ?_, t0, t1, t7, ?_, rfl⟩
    ·rw [he, Option.map_map]
     congr 1
     funext x
     simp only [Function.comp]
     omega
    ·simp only [upd, ↓reduceIte]
     rw [QP (by omega)]
  ·have hjl : j = l.length := by omega
   rw [hjl, List.drop_length] at he
   simp only [idxB, Qq7] at he
   repeat (first | (((with_reducible refine Qa fun K E hK hE => ?_)); simp -implicitDefEqProofs only [Qg, Qh, OpW, aop, AS.ev, Nat.reduceLT, aBin, t7, t8, hlt]) | (with_reducible (first | refine Qc fun K hK => ?_ | refine Qj ?_ | refine QB ?_ | refine Qb ?_ | refine Qw ?_ | refine Qv ?_)) | ((with_reducible refine hK _ ?_); clear hK) | (clear hK; (with_reducible refine hK _ ?_); clear hK) | (refine Qf rfl ?_; simp only [↓reduceIte, Qqw]))
   simp only [QE, Ql, Qr, upd, ↓reduceIte, Qqy, QqC]
   exact Qd List.take_length (.keep (.v _)) ⟨by simp [Qik, he], rfl⟩
 ·rw [hI]
  exact ⟨0, by omega, Nat.zero_le _, by simp, rfl, rfl, rfl, rfl, rfl⟩
theorem ZJ (l : List It) (hb : l.length ≤ 1000000) : Pure Tryz.prog 35 [.sl 3 (vs It.av l) none, .fn (.func 32) [] []] (.b (l.any Z5)) := by
 intro h
 have c1 := Qjn l hb
 have e := QiP Z5 l
 cases hi : idxB Z5 l with
 | none =>
  have e1 : Qik Z5 l = -1 := by simp [Qik, hi]
  have e2 : l.any Z5 = false := by rw [← e, hi]; rfl
  rw [e1] at c1
  have hm : ¬ ((-1 : Int) ≥ 0) := by decide
  rw [e2]
  refine Qe Tryz.func35 rfl Tryz.call35 Tryz.ntmps35 (congrArg Array.toList Tryz.results35) (by simp) ?_
  repeat (first | ((first | (with_reducible (first | refine Qa fun K E hK hE => ?_ | refine Qq c1 ?_))); simp -implicitDefEqProofs only [Qg, Qh, OpW, QI, aop, undef, AS.ev, Qy, ↓reduceIte, aBin, hm, seval]) | (with_reducible refine Qj ?_) | ((with_reducible refine hK _ ?_); clear hK))
  simp only [QE, Ql, Qr, upd, ↓reduceIte, Qqy, QqC]; first | refine Qd (htake _ _) (.keep (.v _)) ⟨rfl, rfl⟩ | refine Qd List.take_length (.keep (.v _)) ⟨rfl, rfl⟩
 | some i =>
  have e1 : Qik Z5 l = (i : Int) := by simp [Qik, hi]
  have e2 : l.any Z5 = true := by rw [← e, hi]; rfl
  rw [e1] at c1
  have hm : ((i : Int) ≥ 0) := by omega
  rw [e2]
  refine Qe Tryz.func35 rfl Tryz.call35 Tryz.ntmps35 (congrArg Array.toList Tryz.results35) (by simp) ?_
  repeat (first | ((first | (with_reducible (first | refine Qa fun K E hK hE => ?_ | refine Qq c1 ?_))); simp -implicitDefEqProofs only [Qg, Qh, OpW, QI, aop, undef, AS.ev, Qy, ↓reduceIte, aBin, hm, seval]) | (with_reducible refine Qj ?_) | ((with_reducible refine hK _ ?_); clear hK))
  simp only [QE, Ql, Qr, upd, ↓reduceIte, Qqy, QqC]; first | refine Qd (htake _ _) (.keep (.v _)) ⟨rfl, rfl⟩ | refine Qd List.take_length (.keep (.v _)) ⟨rfl, rfl⟩
def subG (b : List (Int × T)) (g : G) : G := ⟨0, g.name, XP b g.args⟩
theorem Qd8 (b : List (Int × T)) (hb : b.length ≤ 1000000) (g : G) (hn : ndsL g.args ≤ 1000000) : Pure Tryz.prog 38 [.sl 5 (bavs b) none, g.atom] (subG b g).atom := by
 intro h
 have c1 := Qcx b 1000000 (Nat.le_refl _) (apply_pure b hb 1000000 (Nat.le_refl _)) g.args hn
 refine Qe Tryz.func38 rfl Tryz.call38 Tryz.ntmps38 (congrArg Array.toList Tryz.results38) (by simp) ?_
 repeat (first | ((first | (with_reducible (first | refine Qa fun K E hK hE => ?_ | refine Qq c1 ?_))); simp -implicitDefEqProofs only [Qg, Qh, OpW, QI, aop, undef, AS.ev, Qy, AV.QpF, ↓reduceIte, Qp, QC, QD, QL, QF, ti29, ti45, ZO, zi45, QQ, Q6, seval]) | (with_reducible refine Qj ?_) | ((with_reducible refine hK _ ?_); clear hK))
 simp -implicitDefEqProofs only [Qg, ↓reduceIte, QC, QD, ti45, QE, Ql, Qr, QqC, seval]
 exact Qd (htake _ _) (.keep (.agg _ (Qay _ (subG b g)))) ⟨rfl, rfl⟩
mutual
theorem T.QpU {b : List (Int × T)} {K : Nat} (hK : 1 ≤ K) (hb : ∀ x ∈ b, x.2.nds ≤ K) : ∀ t : T, (t.subst b).nds ≤ t.nds * K
 | .mk k i n l => by
  simp only [T.subst]
  split
  ·split
   ·rename_i x hx
    have := QmJ hb hx
    simp only [T.nds]
    have h1 : 1 * K ≤ (1 + ndsL l) * K := Nat.mul_le_mul_right _ (by omega)
    omega
   ·exact Nat.le_mul_of_pos_right _ hK
  ·split
   ·simp only [T.nds]
    have := Qb8 hK hb l
    rw [Nat.add_mul]; omega
   ·exact Nat.le_mul_of_pos_right _ hK
theorem Qb8 {b : List (Int × T)} {K : Nat} (hK : 1 ≤ K) (hb : ∀ x ∈ b, x.2.nds ≤ K) : ∀ l : List T, ndsL (XP b l) ≤ ndsL l * K
 | [] => Nat.zero_le _
 | t :: l => by
  simp only [XP, ndsL]
  have := T.QpU hK hb t
  have := Qb8 hK hb l
  rw [Nat.add_mul]; omega
theorem QmJ {b : List (Int × T)} {K : Nat} (hb : ∀ x ∈ b, x.2.nds ≤ K) {v : Int} {x : T} (h : XZ b v = some x) : x.nds ≤ K := by
 induction b with
 | nil => simp [XZ] at h
 | cons y b ih =>
  simp only [XZ] at h
  split at h
  ·cases h; exact hb y (by simp)
  ·exact ih (fun z hz => hb z (by simp [hz])) h
end
end Go.Proofs.YtniljpjjnmkoaaaGreatDoor.Ab
set_option maxRecDepth 4000
namespace Go.Proofs.YtniljpjjnmkoaaaGreatDoor.Ab
open Go.Proofs
theorem Qmp {b : List (Int × T)} (hb : ∀ x ∈ b, i64 x.1 ∧ x.2.ok) {v : Int} {x : T} (h : XZ b v = some x) : x.ok := by
 induction b with
 | nil => simp [XZ] at h
 | cons y b ih =>
  simp only [XZ] at h
  split at h
  ·cases h; exact (hb y (by simp)).2
  ·exact ih (fun z hz => hb z (by simp [hz])) h
mutual
theorem T.Qp2 {b : List (Int × T)} (hb : ∀ x ∈ b, i64 x.1 ∧ x.2.ok) : ∀ t : T, t.ok → (t.subst b).ok
 | .mk k i n l, h => by
  simp only [T.subst]
  split
  ·split
   ·rename_i x hx; exact Qmp hb hx
   ·exact h
  ·split
   ·exact ⟨h.1, h.2.1, h.2.2.1, Qdh hb l h.2.2.2⟩
   ·exact h
theorem Qdh {b : List (Int × T)} (hb : ∀ x ∈ b, i64 x.1 ∧ x.2.ok) : ∀ l : List T, oks l → oks (XP b l)
 | [], h => h
 | t :: l, h => ⟨T.Qp2 hb t h.1, Qdh hb l h.2⟩
end
def vT (v : Int) : T := .mk 1 v { data := #[] } []
def valsOf (b : List (Int × T)) (k : Nat) : List T := (nums k).map fun v => (vT v).subst b
def storeOf (b : List (Int × T)) (l : List It) : List G := l.map fun x => subG b x.atom
theorem Qbb (b : List (Int × T)) (k : Nat) : valsOf b (k + 1) = valsOf b k ++ [(vT k).subst b] := by simp [valsOf, Qhs]
theorem X8 (b : List (Int × T)) (k : Nat) : (valsOf b k).length = k := by simp [valsOf, nums_length]
theorem Qcb (b : List (Int × T)) {l : List It} {k : Nat} (h : k < l.length) : storeOf b (l.take (k + 1)) = storeOf b (l.take k) ++ [subG b (l[k]).atom] := by
 rw [storeOf, storeOf, List.take_succ_eq_append_getElem h, List.map_append]; rfl
theorem Yz (b : List (Int × T)) (l : List It) : (storeOf b l).length = l.length := List.length_map _
structure SmallC (b : List (Int × T)) (l : List It) : Prop where
 b1 : b.length ≤ 1000
 b2 : ∀ x ∈ b, x.2.nds ≤ 50
 b3 : ∀ x ∈ b, i64 x.1 ∧ x.2.ok
 l1 : l.length ≤ 7
 l2 : ∀ x ∈ l, ndsL x.atom.args ≤ 250
 l3 : ∀ x ∈ l, oks x.atom.args
theorem SmallC.vals {b : List (Int × T)} {l : List It} (H : SmallC b l) : ∀ k : Nat, ndsL (valsOf b k) ≤ k * 50
 | 0 => Nat.zero_le _
 | k + 1 => by
  rw [Qbb, Yw]
  have h1 := H.vals k
  have h2 := T.QpU (b := b) (by omega : 1 ≤ 50) H.b2 (vT k)
  have h3 : (vT k).nds = 1 := rfl
  simp only [ndsL]
  rw [h3] at h2
  omega
theorem SmallC.store {b : List (Int × T)} {l : List It} (H : SmallC b l) : gsN (storeOf b l) ≤ 87507 := by
 have h1 : ∀ l : List It, (∀ x ∈ l, ndsL x.atom.args ≤ 250) → gsN (storeOf b l) ≤ l.length * 12501 := fun l => by
  induction l with
  | nil => intro _; exact Nat.zero_le _
  | cons x l ih =>
   intro h
   have h2 := ih fun y hy => h y (by simp [hy])
   have h3 := Qb8 (b := b) (by omega : 1 ≤ 50) H.b2 x.atom.args
   have h4 := h x (by simp)
   have h5 : ndsL x.atom.args * 50 ≤ 250 * 50 := Nat.mul_le_mul_right _ h4
   show 1 + ndsL (XP b x.atom.args) + gsN (storeOf b l) ≤ (l.length + 1) * 12501
   omega
 have h2 := h1 l H.l2
 have h3 := H.l1
 omega
theorem SmallC.Qqf {b : List (Int × T)} {l : List It} (H : SmallC b l) : ∀ k : Nat, k ≤ 1000 → oks (valsOf b k)
 | 0, _ => trivial
 | k + 1, hk => by
  rw [Qbb]
  exact QaP (H.Qqf k (by omega)) ⟨T.Qp2 H.b3 _ ⟨by unfold i64; omega, by unfold i64; omega, by decide, trivial⟩, trivial⟩
theorem SmallC.Qp9 {b : List (Int × T)} {l : List It} (H : SmallC b l) : ∀ g ∈ storeOf b l, oks g.args := fun g hg => by
 obtain ⟨x, hx, rfl⟩ := List.mem_map.1 hg
 exact Qdh H.b3 _ (H.l3 x hx)
def Qaj (n : Int) (b : List (Int × T)) (l : List It) : Bool := decide (n < 0) || (decide (n > 100) || (!rightS b || l.any Z5))
def An.nil : An := ⟨false, [], []⟩
def ofC (n : Int) (b : List (Int × T)) (l : List It) (failed : Bool) : An × Int :=
 if Qaj n b l = true then (An.nil, 2) else if failed = true then (⟨true, [], []⟩, 0) else
 if (storeOf b l).any (fun g => !rightAtomB g) = true then (An.nil, 6) else
 if 6 < (Q3 n (valsOf b n.toNat) (storeOf b l)).length then (An.nil, 15) else
 (⟨false, (X1 n ⟨valsOf b n.toNat, storeOf b l⟩ (Q3 n (valsOf b n.toNat) (storeOf b l))).vals, (X1 n ⟨valsOf b n.toNat, storeOf b l⟩ (Q3 n (valsOf b n.toNat) (storeOf b l))).store⟩, 0)
theorem Qo5 (n : Int) (b : List (Int × T)) (l : List It) (failed : Bool) (H : SmallC b l) (hbad : Qaj n b l = true) :
  Pure Tryz.prog 11 [.i n, .sl 5 (bavs b) none, .sl 3 (vs It.av l) none, .v (.bool failed)] (.tup [(ofC n b l failed).1.av, .i (ofC n b l failed).2]) := by
 intro h
 have e : ofC n b l failed = (An.nil, 2) := by rw [ofC, if_pos hbad]
 rw [e]
 have hl7 := H.l1
 have hz : ∀ own : AH, Frz (h ++ own) h.length (.tup [.agg [.v (.bool false), .v (.slice none 0 0), .v (.slice none 0 0)], .i 2]) (.tup [An.nil.av, .i 2]) := fun own =>
  .tup rfl (Xa (.agg rfl (Xa (.keep (.v _)) (Xa (.nil 4) (Ya (.nil 2))))) (Ya (.keep (.v _))))
 have c1 := Qba b (by have := H.b1; omega) (fun x hx => by have := H.b2 x hx; omega) H.b3
 have c2 := ZJ l (by omega)
 by_cases k1 : n < 0
 ·refine Qe Tryz.func11 rfl Tryz.call11 Tryz.ntmps11 (congrArg Array.toList Tryz.results11) (by simp) ?_
  repeat (first | (((with_reducible refine Qa fun K E hK hE => ?_)); simp -implicitDefEqProofs only [Qg, Qh, OpW, aop, undef, AS.ev, Qy, AV.QpF, ↓reduceIte, QL, QF, aBin, Xy, XR, ti32, zi32, sp32, k1, seval]) | (with_reducible (first | refine Qc fun K hK => ?_ | refine Qj ?_ | refine Qo ?_)) | ((with_reducible refine hK _ ?_); clear hK) | (refine Qf rfl ?_; simp only [↓reduceIte]))
  simp -implicitDefEqProofs only [Qg, ↓reduceIte, QC, QD, ti32, List.mapM_cons, List.mapM_nil, Option.pure_def, Option.bind_eq_bind, QE, Ql, Qr, QqC, seval]
  exact Qd (htake _ _) (hz _) ⟨rfl, rfl⟩
 by_cases k2 : n > 100
 ·refine Qe Tryz.func11 rfl Tryz.call11 Tryz.ntmps11 (congrArg Array.toList Tryz.results11) (by simp) ?_
  repeat (first | (((with_reducible refine Qa fun K E hK hE => ?_)); simp -implicitDefEqProofs only [Qg, Qh, OpW, aop, undef, AS.ev, Qy, AV.QpF, ↓reduceIte, QL, QF, aBin, Xy, XR, ti32, zi32, sp32, k1, k2, seval]) | (with_reducible (first | refine Qc fun K hK => ?_ | refine Qj ?_ | refine Qo ?_)) | ((with_reducible refine hK _ ?_); clear hK) | (refine Qf rfl ?_; simp only [↓reduceIte]))
  simp -implicitDefEqProofs only [Qg, ↓reduceIte, QC, QD, ti32, List.mapM_cons, List.mapM_nil, Option.pure_def, Option.bind_eq_bind, QE, Ql, Qr, QqC, seval]
  exact Qd (htake _ _) (hz _) ⟨rfl, rfl⟩
 cases k3 : rightS b with
 | false =>
  rw [k3] at c1
  refine Qe Tryz.func11 rfl Tryz.call11 Tryz.ntmps11 (congrArg Array.toList Tryz.results11) (by simp) ?_
  repeat (first | ((first | (with_reducible (first | refine Qa fun K E hK hE => ?_ | refine Qq c1 ?_))); simp -implicitDefEqProofs only [Qg, Qh, OpW, QI, aop, undef, AS.ev, Qy, AV.QpF, ↓reduceIte, QL, QF, aBin, Xy, XR, ti32, zi32, sp32, k1, k2, seval]) | (with_reducible (first | refine Qc fun K hK => ?_ | refine Qj ?_ | refine Qo ?_)) | ((with_reducible refine hK _ ?_); clear hK) | (refine Qf rfl ?_; simp only [↓reduceIte]))
  simp -implicitDefEqProofs only [Qg, ↓reduceIte, QC, QD, ti32, List.mapM_cons, List.mapM_nil, Option.pure_def, Option.bind_eq_bind, QE, Ql, Qr, QqC, seval]
  exact Qd (htake _ _) (hz _) ⟨rfl, rfl⟩
 | true =>
  rw [k3] at c1
  have k4 : l.any Z5 = true := by simpa [Qaj, k1, k2, k3] using hbad
  rw [k4] at c2
  refine Qe Tryz.func11 rfl Tryz.call11 Tryz.ntmps11 (congrArg Array.toList Tryz.results11) (by simp) ?_
  repeat (first | ((first | (with_reducible (first | refine Qa fun K E hK hE => ?_ | refine Qq c1 ?_ | refine Qq c2 ?_))); simp -implicitDefEqProofs only [Qg, Qh, OpW, QI, aop, undef, AS.ev, Qy, AV.QpF, ↓reduceIte, QL, QF, aBin, Xy, XR, ti32, zi32, sp32, k1, k2, seval]) | (with_reducible (first | refine Qc fun K hK => ?_ | refine Qj ?_ | refine Qo ?_)) | ((with_reducible refine hK _ ?_); clear hK) | (refine Qf rfl ?_; simp only [↓reduceIte]))
  simp -implicitDefEqProofs only [Qg, ↓reduceIte, QC, QD, ti32, List.mapM_cons, List.mapM_nil, Option.pure_def, Option.bind_eq_bind, QE, Ql, Qr, QqC, seval]
  exact Qd (htake _ _) (hz _) ⟨rfl, rfl⟩
theorem QfX (n : Int) (b : List (Int × T)) (l : List It) (H : SmallC b l) (hbad : Qaj n b l = false) :
  Pure Tryz.prog 11 [.i n, .sl 5 (bavs b) none, .sl 3 (vs It.av l) none, .v (.bool true)] (.tup [(ofC n b l true).1.av, .i (ofC n b l true).2]) := by
 intro h
 have e : ofC n b l true = (⟨true, [], []⟩, 0) := by rw [ofC, if_neg (by rw [hbad]; decide), if_pos rfl]
 rw [e]
 have hl7 := H.l1
 have hz : ∀ own : AH, Frz (h ++ own) h.length (.tup [.agg [.v (.bool true), .v (.slice none 0 0), .v (.slice none 0 0)], .i 0]) (.tup [(An.mk true [] []).av, .i 0]) := fun own =>
  .tup rfl (Xa (.agg rfl (Xa (.keep (.v _)) (Xa (.nil 4) (Ya (.nil 2))))) (Ya (.keep (.v _))))
 have c1 := Qba b (by have := H.b1; omega) (fun x hx => by have := H.b2 x hx; omega) H.b3
 have c2 := ZJ l (by omega)
 simp only [Qaj, Bool.or_eq_false_iff, decide_eq_false_iff_not, Bool.not_eq_false'] at hbad
 obtain ⟨k1, k2, k3, k4⟩ := hbad
 rw [k3] at c1
 rw [k4] at c2
 refine Qe Tryz.func11 rfl Tryz.call11 Tryz.ntmps11 (congrArg Array.toList Tryz.results11) (by simp) ?_
 repeat (first | ((first | (with_reducible (first | refine Qa fun K E hK hE => ?_ | refine Qq c1 ?_ | refine Qq c2 ?_))); simp -implicitDefEqProofs only [Qg, Qh, OpW, QI, aop, undef, AS.ev, Qy, AV.QpF, ↓reduceIte, QL, QF, aBin, Xy, XR, ti32, zi32, sp32, k1, k2, seval]) | (with_reducible (first | refine Qc fun K hK => ?_ | refine Qj ?_ | refine Qk ?_ | refine Qb ?_ | refine Qo ?_)) | ((with_reducible refine hK _ ?_); clear hK) | (refine Qf rfl ?_; simp only [↓reduceIte, Qqw]))
 simp -implicitDefEqProofs only [Qg, ↓reduceIte, QC, QD, ti32, List.mapM_cons, List.mapM_nil, Option.pure_def, Option.bind_eq_bind, QE, Ql, Qr, QqC, seval]
 exact Qd (htake _ _) (hz _) ⟨rfl, rfl⟩
end Go.Proofs.YtniljpjjnmkoaaaGreatDoor.Ab
set_option maxRecDepth 4000
namespace Go.Proofs.YtniljpjjnmkoaaaGreatDoor.Ab
open Go.Proofs
theorem QhY (t : T) : (Yo t).Nodup := by
 have key : ∀ (n : Nat) (l : List T), ndsL l ≤ n → ∀ s : List Int, s.Nodup → (walks YG s l).2.Nodup := by
  intro n
  induction n with
  | zero =>
   intro l hl s hs
   cases l with
   | nil => exact hs
   | cons t l => simp only [ndsL] at hl; have := T.QpH t; omega
  | succ n ih =>
   intro l hl s hs
   cases l with
   | nil => exact hs
   | cons t l =>
    simp only [ndsL] at hl
    have hnd := T.QpH t
    have h1 : (T.walk YG s t).2.Nodup := by
     rw [T.walk_eq]
     split
     ·simp only [YG]
      split
      ·exact hs
      ·rename_i hm
       exact List.nodup_append.2 ⟨hs, by simp, fun a ha b hb => by
        simp only [List.mem_singleton] at hb
        subst hb
        exact fun e => hm (e ▸ ha)⟩
     ·exact ih _ (by have := Z9 t; omega) s hs
    simp only [walks]
    split
    ·exact ih l (by omega) _ h1
    ·exact h1
 exact key _ [t] (Nat.le_refl _) [] List.nodup_nil
theorem YM (n : Int) (vals : List T) (store : List G) : (Q3 n vals store).Nodup := (QhY _).filter _
theorem QhV (n : Int) (b : List (Int × T)) (l : List It) (H : SmallC b l) (hbad : Qaj n b l = false) :
  Pure Tryz.prog 11 [.i n, .sl 5 (bavs b) none, .sl 3 (vs It.av l) none, .v (.bool false)] (.tup [(ofC n b l false).1.av, .i (ofC n b l false).2]) := by
 intro h
 have hl7 := H.l1
 have hb1 := H.b1
 have hz : ∀ (e : Int) (own : AH), Frz (h ++ own) h.length (.tup [.agg [.v (.bool false), .v (.slice none 0 0), .v (.slice none 0 0)], .i e]) (.tup [An.nil.av, .i e]) := fun e own =>
  .tup rfl (Xa (.agg rfl (Xa (.keep (.v _)) (Xa (.nil 4) (Ya (.nil 2))))) (Ya (.keep (.v _))))
 have c1 := Qba b (by omega) (fun x hx => by have := H.b2 x hx; omega) H.b3
 have c2 := ZJ l (by omega)
 have hbad' := hbad
 simp only [Qaj, Bool.or_eq_false_iff, decide_eq_false_iff_not, Bool.not_eq_false'] at hbad'
 obtain ⟨k1, k2, k3, k4⟩ := hbad'
 rw [k3] at c1
 rw [k4] at c2
 obtain ⟨N, rfl⟩ : ∃ N : Nat, n = (N : Int) := ⟨n.toNat, by omega⟩
 have hN : N ≤ 100 := by omega
 have eO : ofC N b l false = (if (storeOf b l).any (fun g => !rightAtomB g) = true then (An.nil, 6) else
  if 6 < (Q3 N (valsOf b N) (storeOf b l)).length then (An.nil, 15) else
  (⟨false, (X1 N ⟨valsOf b N, storeOf b l⟩ (Q3 N (valsOf b N) (storeOf b l))).vals, (X1 N ⟨valsOf b N, storeOf b l⟩ (Q3 N (valsOf b N) (storeOf b l))).store⟩, 0)) := by
  rw [ofC, if_neg (by rw [hbad]; decide), if_neg (by decide), Int.toNat_natCast]
 refine Qe Tryz.func11 rfl Tryz.call11 Tryz.ntmps11 (congrArg Array.toList Tryz.results11) (by simp) ?_
 repeat (first | ((first | (with_reducible (first | refine Qa fun K E hK hE => ?_ | refine Qq c1 ?_ | refine Qq c2 ?_))); simp -implicitDefEqProofs only [Qg, Qh, OpW, QI, aop, undef, AS.ev, Qy, AV.QpF, ↓reduceIte, aBin, zi32, zi76, k1, k2, seval]) | (with_reducible (first | refine Qc fun K hK => ?_ | refine Qi ?_ | refine Qk ?_ | refine Qb ?_)) | ((with_reducible refine hK _ ?_); clear hK) | (refine Qf rfl ?_; simp only [↓reduceIte, Qqw]))
 refine ZG (h.length + 1) 76 2 4 (.grow 41 4 0) (.inr ⟨_, rfl⟩) [.agg [.v (.slice none 0 0), .v (.slice none 0 0)]] [.agg [.sl 4 [] (some (h.length + 2)), .v (.slice none 0 0)]] 0 (by rw [hget]; rfl) rfl (by simp [flat, AV.cells]) (by simp [AV.cells]) ?_
 refine ZG (h.length + 1) 76 2 2 (.grow 45 2 0) (.inr ⟨_, rfl⟩) [.agg [.sl 4 [] (some (h.length + 2)), .v (.slice none 0 0)]] [.agg [.sl 4 [] (some (h.length + 2)), .sl 2 [] (some (h.length + 3))]] 1 (by rw [List.getElem?_set_self (by simp)]) rfl (by simp [flat, AV.cells]) (by simp [AV.cells]) ?_
 obtain ⟨I, hI⟩ : ∃ I : Nat → AS → Prop, I = fun m' s => ∃ (k : Nat) (M : AH), m' = N - k ∧ k ≤ N ∧ s.tm 0 = .i N ∧ s.tm 1 = .sl 5 (bavs b) none ∧ s.tm 2 = .sl 3 (vs It.av l) none ∧ s.tm 8 = .ptr h.length 0 0 ∧ s.tm 11 = .ptr (h.length + 1) 0 0 ∧ s.tm 36 = .i N ∧ s.tm 37 = .i k ∧
   s.h = h ++ ([.cells 32 3 [.agg [.v (.bool false), .v (.slice none 0 0), .v (.slice none 0 0)]], .cells 76 2 [.agg [.sl 4 (avs (valsOf b k)) (some (h.length + 2)), .sl 2 [] (some (h.length + 3))]], .grow 41 4 k, .grow 45 2 0] ++ M) := ⟨_, rfl⟩; refine QJ I ?_ (m := N) ?_
 ·intro m' s hs; rw [hI] at hs; obtain ⟨tm, hp⟩ := s; dsimp only at hs; obtain ⟨k, M, rfl, hk, t0, t1, t2, t8, t11, t36, t37, rfl⟩ := hs
  by_cases hlt : k < N
  ·have cv := Qgr (k : Int)
   have ca := apply_pure b (by omega) 1 (by omega) (vT k) (Nat.le_refl _)
   have hb1 : k + 1 ≤ maxLen := by simp only [maxLen]; omega
   have hb2 : (k + 1) * 56 ≤ 140737488355328 := by omega
   have hvl := X8 b k
   change Pure _ _ _ (vT k).av at cv
   repeat (first | ((first | (with_reducible (first | refine Qa fun K E hK hE => ?_ | refine Qm fun K E hK hE => ?_ | refine Qu cv ?_ | refine Qu ca ?_)) | (refine QH (id := 10) [(0, 0), (1, 0), (2, 0), (3, 0), (4, 1), (5, 1), (6, 0), (7, 2), (8, 0), (9, 2)] mixed (by kernel_rfl) fun K hK => ?_)); simp -implicitDefEqProofs only [Qg, Qh, OpW, aop, undef, AS.ev, AV.QpF, ↓reduceIte, Qp, QC, QD, QL, QF, aBin, QK, XA, X6, ti29, ei29, ai29, zi41, Qk1, t1, t11, t36, t37, hlt, hvl, hb1, hb2, seval]) | (with_reducible (first | refine Qc fun K hK => ?_ | refine Qi ?_ | refine Qk ?_ | refine Qb ?_ | refine Qn ?_)) | ((with_reducible refine hK _ ?_); clear hK) | (refine Qf rfl ?_; simp only [↓reduceIte]))
   refine Q1.mk (m' := N - (k + 1)) (by omega) ?_
   rw [hI]
   refine ⟨k + 1, M, rfl, hlt, t0, t1, t2, t8, t11, t36, ?_, ?_⟩
   ·simp only [upd, ↓reduceIte]
    rw [QP (by omega)]
   ·rw [Qbb, QaJ, Qbc]; simp
  ·have hkN : N = k := by omega
   subst hkN
   repeat (first | (((with_reducible refine Qa fun K E hK hE => ?_)); simp -implicitDefEqProofs only [Qg, Qh, OpW, aop, AS.ev, ↓reduceIte, aBin, aLen, goInt, un24, t2, t36, t37, hlt, QN, seval]) | (with_reducible (first | refine Qc fun K hK => ?_ | refine Qi ?_ | refine QB ?_ | refine Qb ?_ | refine Qw ?_ | refine Qv ?_)) | ((with_reducible refine hK _ ?_); clear hK) | (clear hK; (with_reducible refine hK _ ?_); clear hK) | (refine Qf rfl ?_; simp only [↓reduceIte, Qqw]))
   obtain ⟨I, hI⟩ : ∃ I : Nat → AS → Prop, I = fun m' s => ∃ (k : Nat) (M : AH), m' = l.length - k ∧ k ≤ l.length ∧ (∀ g ∈ storeOf b (l.take k), rightAtomB g = true) ∧ s.tm 0 = .i N ∧ s.tm 1 = .sl 5 (bavs b) none ∧ s.tm 8 = .ptr h.length 0 0 ∧ s.tm 11 = .ptr (h.length + 1) 0 0 ∧ s.tm 50 = .sl 3 (vs It.av l) none ∧ s.tm 51 = .i l.length ∧ s.tm 52 = .i k ∧
     s.h = h ++ ([.cells 32 3 [.agg [.v (.bool false), .v (.slice none 0 0), .v (.slice none 0 0)]], .cells 76 2 [.agg [.sl 4 (avs (valsOf b N)) (some (h.length + 2)), .sl 2 (vs G.atom (storeOf b (l.take k))) (some (h.length + 3))]], .grow 41 4 N, .grow 45 2 k] ++ M) := ⟨_, rfl⟩; refine QJ I ?_ (m := l.length) ?_
   ·intro m' s hs; rw [hI] at hs; obtain ⟨tm, hp⟩ := s; dsimp only at hs; obtain ⟨k, M, rfl, hk, hall, t0, t1, t8, t11, t50, t51, t52, rfl⟩ := hs
    by_cases hlt : k < l.length
    ·have hx := List.getElem_mem hlt
     have h50 := H.l2 _ hx
     have ca : Pure Tryz.prog 38 [.sl 5 (bavs b) none, .agg [.v (.string (l[k]).atom.name), .sl 4 (avs (l[k]).atom.args) none]] (subG b (l[k]).atom).atom := Qd8 b (by omega) (l[k]).atom (by omega)
     have cr := YC (subG b (l[k]).atom)
     have hsl : (storeOf b (l.take k)).length = k := by rw [Yz, List.length_take]; omega
     have hb1 : k + 1 ≤ maxLen := by simp only [maxLen]; omega
     have hb2 : (k + 1) * 40 ≤ 140737488355328 := by omega
     cases hr : rightAtomB (subG b (l[k]).atom) with
     | false =>
      rw [hr] at cr
      have e : ofC N b l false = (An.nil, 6) := by
       rw [eO, if_pos]
       rw [List.any_eq_true]
       exact ⟨_, List.mem_map.2 ⟨_, hx, rfl⟩, by rw [hr]; rfl⟩
      repeat (first | ((first | (with_reducible (first | refine Qa fun K E hK hE => ?_ | refine Qq ca ?_ | refine Qq cr ?_))); simp -implicitDefEqProofs only [Qg, Qh, OpW, QI, aop, undef, AS.ev, AV.QpF, ↓reduceIte, Qp, QC, QD, QL, QF, Qz, aBin, Xy, XR, ei24, ti32, zi32, sp32, ti45, zi45, ti48, Qgo, zi48, t1, t8, t50, t51, t52, hlt, QN, XN It.av hlt, It.cells, It.isAgg, QQ, Q6, seval]) | (with_reducible (first | refine Qc fun K hK => ?_ | refine Qi ?_ | refine Qj ?_ | refine Qk ?_ | refine Qb ?_ | refine Qo ?_ | refine Qs ?_)) | ((with_reducible refine hK _ ?_); clear hK) | (refine Qf rfl ?_; simp only [↓reduceIte]))
      simp -implicitDefEqProofs only [Qg, ↓reduceIte, QC, QD, ti32, t8, List.mapM_cons, List.mapM_nil, Option.pure_def, Option.bind_eq_bind, QE, Ql, Qr, QqC, seval]
      rw [e]
      exact Qd (htake _ _) (hz _ _) ⟨rfl, rfl⟩
     | true =>
      rw [hr] at cr
      repeat (first | ((first | (with_reducible (first | refine Qa fun K E hK hE => ?_ | refine Qm fun K E hK hE => ?_ | refine Qq ca ?_ | refine Qq cr ?_))); simp -implicitDefEqProofs only [Qg, Qh, OpW, QI, aop, undef, AS.ev, AV.QpF, ↓reduceIte, Qp, QC, QD, QL, QF, Qz, aBin, QK, XA, X6, ei24, ti30, ei30, ai30, ti45, zi45, ti48, Qgo, zi48, Qkz, t1, t11, t50, t51, t52, hlt, QN, XN It.av hlt, It.cells, It.isAgg, QQ, Q6, hsl, hb1, hb2, seval]) | (with_reducible (first | refine Qc fun K hK => ?_ | refine Qi ?_ | refine Qk ?_ | refine Qb ?_ | refine Qn ?_)) | ((with_reducible refine hK _ ?_); clear hK) | (refine Qf rfl ?_; simp only [↓reduceIte, Qqw]))
      refine Q1.mk (m' := l.length - (k + 1)) (by omega) ?_
      rw [hI]
      refine ⟨k + 1, M ++ [.cells 48 3 [(l[k]).av], .cells 45 2 [(subG b (l[k]).atom).atom]], rfl, hlt, ?_, t0, t1, t8, t11, t50, t51, ?_, ?_⟩
      ·rw [Qcb b hlt]
       intro g hg
       rcases List.mem_append.1 hg with hg | hg
       ·exact hall g hg
       ·rw [List.mem_singleton] at hg; subst hg; exact hr
      ·simp only [upd, ↓reduceIte]
       rw [QP (by omega)]
      ·rw [Qcb b hlt, QgQ, QoV]; simp
    ·have hkl : k = l.length := by omega
     subst hkl
     rw [List.take_length] at hall ⊢
     have hV := H.vals N
     have hS := H.store
     have hoth : Q4 Tryz.prog 39 [.agg [.sl 4 (avs (valsOf b N)) (some (h.length + 2)), .sl 2 (vs G.atom (storeOf b l)) (some (h.length + 3))], .i N] (h ++ AB.cells 32 3 [AV.agg [AV.v (.bool false), AV.v (.slice none 0 0), AV.v (.slice none 0 0)]] :: AB.cells 76 2 [AV.agg [AV.sl 4 (avs (valsOf b N)) (some (h.length + 2)), AV.sl 2 (vs G.atom (storeOf b l)) (some (h.length + 3))]] :: AB.grow 41 4 N :: AB.grow 45 2 l.length :: M) fun o h' => o = .ret (.sl 1 (ints (Q3 N (valsOf b N) (storeOf b l))) none) ∧ h' = h ++ AB.cells 32 3 [AV.agg [AV.v (.bool false), AV.v (.slice none 0 0), AV.v (.slice none 0 0)]] :: AB.cells 76 2 [AV.agg [AV.sl 4 (avs (valsOf b N)) (some (h.length + 2)), AV.sl 2 (vs G.atom (storeOf b l)) (some (h.length + 3))]] :: AB.grow 41 4 (valsOf b N ++ Xq (storeOf b l)).length :: AB.grow 45 2 l.length :: M := by
      have := QhA (valsOf b N) (storeOf b l) N (some (h.length + 3)) (h.length + 2) (h ++ AB.cells 32 3 [AV.agg [AV.v (.bool false), AV.v (.slice none 0 0), AV.v (.slice none 0 0)]] :: AB.cells 76 2 [AV.agg [AV.sl 4 (avs (valsOf b N)) (some (h.length + 2)), AV.sl 2 (vs G.atom (storeOf b l)) (some (h.length + 3))]] :: AB.grow 41 4 N :: AB.grow 45 2 l.length :: M) (by simp <;> omega) (by omega) (H.Qqf N (by omega)) H.Qp9
      rw [X8, Qe8 (by rw [hget]; rfl)] at this
      rwa [hs, hset] at this
     have hbadn : ¬ (storeOf b l).any (fun g => !rightAtomB g) = true := by
      rw [List.any_eq_true]
      rintro ⟨g, hg, hq⟩
      rw [hall g hg] at hq
      cases hq
     rw [if_neg hbadn] at eO
     by_cases h6 : 6 < (Q3 N (valsOf b N) (storeOf b l)).length
     ·rw [if_pos h6] at eO
      have h6' : ((Q3 N (valsOf b N) (storeOf b l)).length : Int) > 6 := by omega
      repeat (first | ((first | (with_reducible (first | refine Qa fun K E hK hE => ?_ | refine FunW.ret (FunW.call hoth) ?_))); simp -implicitDefEqProofs only [Qg, Qh, OpW, QI, aop, undef, AS.ev, AV.QpF, ↓reduceIte, QC, QD, QL, QF, aBin, Xy, XR, aLen, goInt, ti32, zi32, sp32, un49, ti76, t0, t8, t11, t51, t52, hlt, h6', seval]) | (with_reducible (first | refine Qc fun K hK => ?_ | refine Qj ?_ | refine QB ?_ | refine Qb ?_ | refine Qo ?_ | refine Qw ?_ | refine Qv ?_)) | ((with_reducible refine hK _ ?_); clear hK) | (clear hK; (with_reducible refine hK _ ?_); clear hK) | (refine Qf rfl ?_; simp only [↓reduceIte, Qqw]))
      simp -implicitDefEqProofs only [Qg, ↓reduceIte, QC, QD, ti32, t8, List.mapM_cons, List.mapM_nil, Option.pure_def, Option.bind_eq_bind, QE, Ql, Qr, QqC, seval]
      rw [eO]
      exact Qd (htake _ _) (hz _ _) ⟨rfl, rfl⟩
     ·rw [if_neg h6] at eO
      have h6' : ¬ ((Q3 N (valsOf b N) (storeOf b l)).length : Int) > 6 := by omega
      have cl := Qjg ⟨valsOf b N, storeOf b l⟩ N (Q3 N (valsOf b N) (storeOf b l)) (by omega) (by omega) (YM _ _ _) (by simp only; omega) (by simp only; omega) (by simp only; rw [Yz]; omega)
      have hw : WkL [AV.agg [.sl 4 (avs (valsOf b N)) (some (h.length + 2)), .sl 2 (vs G.atom (storeOf b l)) (some (h.length + 3))], .i N, .sl 1 (ints (Q3 N (valsOf b N) (storeOf b l))) none] [(Ct.mk (valsOf b N) (storeOf b l)).av, .i N, .sl 1 (ints (Q3 N (valsOf b N) (storeOf b l))) none] :=
       .cons (.agg (.cons (.sl rfl (fun y hy => by rw [Zd, List.mem_map] at hy; obtain ⟨t, _, rfl⟩ := hy; exact T.cells4 t) (.refl _)) (.cons (.sl rfl (fun y hy => by simp only [vs, List.mem_map] at hy; obtain ⟨t, _, rfl⟩ := hy; rfl) (.refl _)) .nil))) (.cons (.refl _) (.cons (.refl _) .nil))
      have cl' := Zj hw cl
      repeat (first | ((first | (with_reducible (first | refine Qa fun K E hK hE => ?_ | refine FunW.ret (FunW.call hoth) ?_ | refine Qq cl' ?_))); simp -implicitDefEqProofs only [Qg, Qh, OpW, QI, aop, undef, AS.ev, AV.QpF, ↓reduceIte, QC, QD, QL, QF, aBin, aLen, goInt, ti32, un49, ti76, t0, t8, t11, t51, t52, hlt, h6', An.cells, An.isAgg, seval]) | (with_reducible (first | refine Qc fun K hK => ?_ | refine Qj ?_ | refine Qk ?_ | refine QB ?_ | refine Qb ?_ | refine Qw ?_ | refine Qv ?_)) | ((with_reducible refine hK _ ?_); clear hK) | (clear hK; (with_reducible refine hK _ ?_); clear hK) | (refine Qf rfl ?_; simp only [↓reduceIte, Qqw]))
      simp -implicitDefEqProofs only [Qg, ↓reduceIte, QC, QD, ti32, t8, An.cells, An.isAgg, List.mapM_cons, List.mapM_nil, Option.pure_def, Option.bind_eq_bind, QE, Ql, Qr, QqC, seval]
      rw [eO]
      exact Qd (htake _ _) (.tup rfl (Xa (.keep (An.below _ _)) (Ya (.keep (.v _))))) ⟨rfl, rfl⟩
   ·rw [hI]
    exact ⟨0, M, by omega, Nat.zero_le _, by simp [storeOf], t0, t1, t8, t11, rfl, by simp only [upd, ↓reduceIte, Nat.reduceEqDiff], rfl, by simp [storeOf, vs]⟩
 ·rw [hI]
  refine ⟨0, [], by omega, Nat.zero_le _, rfl, rfl, rfl, rfl, rfl, rfl, rfl, ?_⟩
  simp [valsOf, nums, avs]
end Go.Proofs.YtniljpjjnmkoaaaGreatDoor.Ab
set_option maxRecDepth 4000
namespace Go.Proofs.YtniljpjjnmkoaaaGreatDoor.Ab
open Go.Proofs
theorem Qlu (n : Int) : cmpI n n = 0 := by simp [cmpI]
theorem QaY : ∀ l : List UInt8, Op.bytesLess l l = false
 | [] => rfl
 | a :: l => by simp [Op.bytesLess, QaY l]
theorem Qlp (s : ByteArray) : cmpS s s = 0 := by simp [cmpS, QaY]
mutual
theorem Qhe : ∀ t : T, cmpT t t = 0
 | .mk k i n l => by
  have h0 : ((0 : Int) != 0) = false := rfl
  simp only [cmpT, Qlu, Qlp, Qf4 l, h0, Qqw, ↓reduceIte, or3, orL, ite_self]
theorem Qf4 : ∀ l : List T, cmpL l l = 0
 | [] => by simp [cmpL]
 | t :: l => by simp [cmpL, Qhe t, Qf4 l]
end
end Go.Proofs.YtniljpjjnmkoaaaGreatDoor.Ab
namespace Go.Proofs.YtniljpjjnmkoaaaGreatDoor.Ab
mutual
def T.dep : T → Nat
 | .mk k _ _ l => 1 + (if k = 2 then deps l else 0)
def deps : List T → Nat
 | [] => 0
 | t :: l => max t.dep (deps l)
end
theorem T.Qqo (t : T) : t.dep = 1 + deps t.uses := by
 cases t with | mk k i n l =>
 show T.dep (.mk k i n l) = 1 + deps (if k = 2 then l else [])
 simp only [T.dep]
 by_cases h : k = 2
 ·simp [h]
 ·simp [h, deps]
end Go.Proofs.YtniljpjjnmkoaaaGreatDoor.Ab
set_option maxRecDepth 4000
namespace Go.Proofs.YtniljpjjnmkoaaaGreatDoor.Ab
open Go.Proofs
end Go.Proofs.YtniljpjjnmkoaaaGreatDoor.Ab
namespace Go.Proofs.YtniljpjjnmkoaaaGreatDoor.Ab
open Go.Lib
def decN (n : Nat) : ByteArray := ⟨(decDigits n).toArray⟩
theorem Qdu (n : Nat) : (decN n).size = nDigits n := by
 show (decDigits n).toArray.size = _
 rw [List.size_toArray, decDigits_length]
theorem ZZ (n : Nat) : (decN n).data.toList = decDigits n := rfl
theorem Qaf : ∀ (k n : Nat), n < 10 ^ (k + 1) → nDigits n ≤ k + 1
 | 0, n, h => by rw [nDigits_small (by simpa using h)]; exact Nat.le_refl _
 | k + 1, n, h => by
  by_cases hn : n < 10
  ·rw [nDigits_small hn]; omega
  ·rw [nDigits_big hn]
   have := Qaf k (n / 10) (by rw [Nat.pow_succ] at h; omega)
   omega
theorem QfZ {n : Nat} (h : n ≤ 9223372036854775808) : (decN n).size ≤ 19 := by
 rw [Qdu]
 exact Qaf 18 n (by omega)
theorem Qfc {n : Nat} (h : n ≤ 1048576) : (decN n).size ≤ 7 := by
 rw [Qdu]
 exact Qaf 6 n (by omega)
theorem QmO (n : Nat) : 1 ≤ (decN n).size := by rw [Qdu]; exact nDigits_pos n
theorem Q9 (a b : ByteArray) : (a ++ b).data.toList = a.data.toList ++ b.data.toList := by
 rw [ByteArray.data_append, Array.toList_append]
theorem QaV : ∀ (l m : List UInt8) (a : Nat), decFrom a (l ++ m) = (decFrom a l).bind fun b => decFrom b m
 | [], m, a => rfl
 | c :: l, m, a => by
  rw [List.cons_append]
  simp only [decFrom]
  cases digitVal c with
  | none => rfl
  | some d => exact QaV l m _
theorem Qcc {d : Nat} (h : d < 10) : digitVal (UInt8.ofNat (48 + d)) = some d := by
 have e : (UInt8.ofNat (48 + d)).toNat = 48 + d := by
  rw [UInt8.toNat_ofNat']; omega
 unfold digitVal
 rw [e, if_pos (by omega)]
 congr 1; omega
theorem QdL (n : Nat) : decFrom 0 (decDigits n) = some n := by
 induction n using Nat.strongRecOn with
 | _ n ih =>
  rw [decDigits]
  split
  ·rename_i h
   simp only [decFrom, Qcc h]
   congr 1; omega
  ·rename_i h
   rw [QaV, ih (n / 10) (by omega), Option.bind_some]
   simp only [decFrom, Qcc (show n % 10 < 10 by omega)]
   congr 1; omega
end Go.Proofs.YtniljpjjnmkoaaaGreatDoor.Ab
set_option maxRecDepth 4000
namespace Go.Proofs.YtniljpjjnmkoaaaGreatDoor.Ab
open Go.Proofs Go.RowKit
def tabC : Array Value := (Lib.pow10Tab.map fun z => Value.int .u64 z).toArray
def Xj (h : AH) : Prop := HasG h 1 tabC
open Go.Sort in
theorem Qbe (w : World) (q : Nat) (os : Array Obj) : Go.RowKit.Below w.heap.size w (grow (w.drewN q) os) :=
 ⟨rfl, rfl, rfl, by simp [grow], fun i hi => by
  show ((w.drewN q).heap ++ os)[i]? = _
  rw [Array.getElem?_append_left (by show i < w.heap.size; omega)]
  rfl⟩
theorem QkC (n : Nat) (hn : n ≤ 9223372036854775807) (h : AH) (hG : Xj h) : Q4 Tryz.prog 99 [.i n] h fun o h' => o = .ret (.v (.string (decN n))) ∧ h' = h :=
 QdG (vs := [.int .i64 n]) Tryz.call99 fun c hst hh => by
  have hv : c.w.var? Tryz.prog "internal/strconv.uint64pow10" = some tabC := HasG.var hst (hh ▸ hG) (by kernel_rfl)
  refine (Tryz.strconv_Itoa n (by omega) (by omega) c.w hv).mono ?_
  rintro e w' ⟨rfl, k, os, rfl⟩
  refine ⟨_, rfl, ?_, fun c' => by rw [Lib.itoa_nonneg]; exact .v _⟩
  exact Qbe c.w k os
theorem Qgy (n : Nat) (h1 : n ≤ 1048576) (h : AH) (hG : Xj h) : Q4 Tryz.prog 57 [.i n] h fun o h' => o = .ret (.v (.string (vOf (decN n)))) ∧ h' = h :=
 QmY n (by omega) (by omega) _ (by have := Qfc h1; omega) h (QkC n (by omega) h hG)
end Go.Proofs.YtniljpjjnmkoaaaGreatDoor.Ab
set_option maxRecDepth 4000
namespace Go.Proofs.YtniljpjjnmkoaaaGreatDoor.Ab
open Go.Proofs
def BTy (ty : TypeId) : Prop := ty = 136 ∨ ty = 162
theorem Qn7 (xo : Operand) : pv Tryz.prog (do eqGuard .eql 133 xo (.const (.pointer none)) (.pointer none) (.pointer none); binOp .eql 133 (.pointer none) (.pointer none)) = some (.bool true) := by
 kernel_rfl
theorem BTy.cells {ty : TypeId} (h : BTy ty) : Tryz.prog.cellsOf ty = 2 := by rcases h with rfl | rfl <;> kernel_rfl
theorem BTy.lies {ty : TypeId} (h : BTy ty) : liesAt Tryz.prog Tryz.prog.depth ty 1 0 136 1 = true := by rcases h with rfl | rfl <;> kernel_rfl
theorem unB : Tryz.prog.underlying 133 = some (.pointer 136) := by kernel_rfl
theorem unU : Tryz.prog.underlying 181 = some .unsafePointer := by kernel_rfl
theorem inB : ∃ j, Tryz.prog.info? 136 = some j ∧ j.size ≠ 0 := by
 have h : (match Tryz.prog.info? 136 with | some j => decide (j.size ≠ 0) | none => false) = true := by kernel_rfl
 cases hj : Tryz.prog.info? 136 with
 | none => rw [hj] at h; cases h
 | some j => rw [hj] at h; exact ⟨j, rfl, of_decide_eq_true h⟩
theorem isB : (Tryz.prog.info? 136).isSome = true := by kernel_rfl
theorem toU {ty : TypeId} (hty : BTy ty) {h : AH} {i : Nat} {xs : List AV} (hb : h[i]? = some (.cells ty 2 [.agg xs])) : Zc Tryz.prog 133 181 i 0 0 h = some (.ptr i 0 0) := by
 obtain ⟨j, hj, h0⟩ := inB
 simp only [Zc, hb, unB, unU, hj]
 rw [if_neg (by simp), if_pos h0]
theorem Qpp {ty : TypeId} (hty : BTy ty) {h : AH} {i : Nat} {xs : List AV} (hb : h[i]? = some (.cells ty 2 [.agg xs])) : Zc Tryz.prog 181 133 i 0 0 h = some (.ptr i 0 0) := by
 obtain ⟨j, hj, h0⟩ := inB
 simp only [Zc, hb, unB, unU, hj]
 rw [if_neg (by simp), if_pos ⟨rfl, hty.cells, hty.lies⟩]
theorem ZD {ty : TypeId} (hty : BTy ty) {i j : Nat} (hij : i ≠ j) (u : Bool) (tx : ByteArray) : Wr Tryz.prog 5 ty 137 [.ptr i 0 0] i j u tx (.tup []) true tx := by
 intro h hi hj
 have f1 := fun x y => Ye h i x j y
 have f2 := fun x y => Yk (h := h) hi hij x y
 have f3 := fun x y z => QcI (h := h) (i := i) (j := j) hij x y z
 have f4 := Qn7
 have c0 := fun y h => QlO (P := Tryz.prog) (y := y) (h := h) Tryz.func153 (by kernel_rfl) (by kernel_rfl) (by kernel_rfl) (by kernel_rfl)
 cases u
 ·refine Qe Tryz.func137 rfl Tryz.call137 Tryz.ntmps137 (congrArg Array.toList Tryz.results137) (by simp) ?_
  rw [bw0, bw1]
  repeat (first | ((first | (with_reducible (first | refine Qa fun K E hK hE => ?_ | refine Qm fun K E hK hE => ?_ | refine FunW.ret (c0 _ _) ?_))); simp -implicitDefEqProofs only [Qg, Qh, OpW, QI, aop, undef, AS.ev, Qy, AV.QpF, ↓reduceIte, Qp, QC, QD, QL, QF, aBin, Qot, Qmd, QM, f2, f3, f4, toU hty (Yk (h := h) hi hij _ _), Qpp hty (Yk (h := h) hi hij _ _), seval]) | ((with_reducible refine hK _ ?_); clear hK) | (refine Qf rfl ?_; simp only [↓reduceIte]))
  simp -implicitDefEqProofs only [Qqu, Qqy, List.mapM_nil, Option.pure_def, Qqu, QE, Ql, QqC]
  exact .inr ⟨rfl, rfl⟩
 ·refine Qe Tryz.func137 rfl Tryz.call137 Tryz.ntmps137 (congrArg Array.toList Tryz.results137) (by simp) ?_
  rw [bw1]
  repeat (first | (((with_reducible refine Qa fun K E hK hE => ?_)); simp -implicitDefEqProofs only [Qg, Qh, OpW, aop, undef, AS.ev, Qy, ↓reduceIte, Qp, QC, QD, aBin, Qot, QpD, Qmd, QM, f2, isB, QdV, notNil, seval]) | (with_reducible refine Qk ?_) | ((with_reducible refine hK _ ?_); clear hK) | (refine Qf rfl ?_; simp only [↓reduceIte, Qqw]))
  simp -implicitDefEqProofs only [Qqu, Qqy, List.mapM_nil, Option.pure_def, Qqu, QE, Ql, QqC]
  exact .inr ⟨rfl, rfl⟩
theorem Qoh : Tryz.prog.underlying 134 = some (.slice 5) := by kernel_rfl
theorem Qor : Tryz.prog.underlying 9 = some .string := by kernel_rfl
theorem inU8 : ∃ i z, Tryz.prog.info? 5 = some i ∧ i.zero = some z ∧ i.size = 1 ∧ i.bytes = 1 ∧ z.cells.size = 1 := by
 have h : (match Tryz.prog.info? 5 with | some i => (match i.zero with | some z => decide (i.size = 1 ∧ i.bytes = 1 ∧ z.cells.size = 1) | none => false) | none => false) = true := by kernel_rfl
 cases hj : Tryz.prog.info? 5 with
 | none => rw [hj] at h; cases h
 | some i =>
  cases hz : i.zero with
  | none => rw [hj] at h; simp [hz] at h
  | some z => rw [hj] at h; simp only [hz] at h; exact ⟨i, z, rfl, hz, of_decide_eq_true h⟩
theorem appS {tx s : ByteArray} {j : Nat} {h : AH} (hj : h[j]? = some (.grow 5 1 tx.size)) (hs : tx.size + s.size ≤ 140737488355328) :
  QaG Tryz.prog 134 9 (.sl 1 (QX tx) (some j)) s h = some (.sl 1 (QX (tx ++ s)) (some j), h.set j (.grow 5 1 (tx ++ s).size)) := by
 obtain ⟨i, z, h1, h2, h3, h4, h5⟩ := inU8
 exact Qie Qoh Qor h1 h2 h3 h4 h5 hj hs
theorem appN : appInfo Tryz.prog 134 9 = none := by kernel_rfl
theorem Qds {ty : TypeId} (hty : BTy ty) {i j : Nat} (hij : i ≠ j) (u : Bool) (tx s : ByteArray) (hs : tx.size + s.size ≤ 140737488355328) : Wr Tryz.prog 5 ty 106 [.ptr i 0 0, .v (.string s)] i j u tx (.tup [.i s.size, .v .nilIface]) true (tx ++ s) := by
 intro h hi hj
 have f1 := fun x y => Ye h i x j y
 have f2 := fun x y => Yk (h := h) hi hij x y
 have f3 := fun x y z => QcI (h := h) (i := i) (j := j) hij x y z
 have f5 := fun x y z => QcF (h := h) (i := i) (j := j) x y z
 have f6 := fun x => appS (Qaw (h := h) (i := i) hj x (.grow 5 1 tx.size)) hs
 have c1 := ZD hty hij u tx h hi hj
 have hsl := Qc5 Tryz.prog 9 3 Qor s
 refine Qe Tryz.func106 rfl Tryz.call106 Tryz.ntmps106 (congrArg Array.toList Tryz.results106) (by simp) ?_
 repeat (first | ((first | (with_reducible (first | refine Qa fun K E hK hE => ?_ | refine FunW.ret (FunW.call c1) ?_))); simp -implicitDefEqProofs only [Qg, Qh, OpW, QI, aop, undef, AS.ev, Qy, AV.QpF, ↓reduceIte, Qp, QC, QD, QL, QF, aLen, XA, goInt, Qmy, Qfl, QM, f2, f3, f5, f6, bw1, aopR, appN, hsl, seval]) | (with_reducible refine Qj ?_) | ((with_reducible refine hK _ ?_); clear hK))
 simp -implicitDefEqProofs only [Qg, ↓reduceIte, Nat.reduceEqDiff, List.mapM_nil, List.mapM_cons, Option.pure_def, Option.bind_eq_bind, QE, Ql, Qr, QqC]
 exact .inr ⟨rfl, rfl⟩
theorem Qfa {ty : TypeId} (hty : BTy ty) {i j : Nat} (hij : i ≠ j) (u : Bool) (tx : ByteArray) (b : UInt8) (hs : tx.size < 140737488355328) : Wr Tryz.prog 5 ty 152 [.ptr i 0 0, .v (.int .u8 (b.toNat : Nat))] i j u tx (.v .nilIface) true (tx ++ { data := #[b] }) := by
 intro h hi hj
 have f1 := fun x y => Ye h i x j y
 have f2 := fun x y => Yk (h := h) hi hij x y
 have f3 := fun x y z => QcI (h := h) (i := i) (j := j) hij x y z
 have f5 := fun x y z => QcF (h := h) (i := i) (j := j) x y z
 have f7 := fun x y => Qaw (h := h) (i := i) hj x y
 have c1 := ZD hty hij u tx h hi hj
 have e1 : QX (tx ++ { data := #[b] }) = QX tx ++ [.v (.int .u8 (b.toNat : Nat))] := Y9 tx _
 have e2 : (tx ++ ({ data := #[b] } : ByteArray)).size = tx.size + 1 := QG _ _
 have hs' : tx.size + 1 ≤ 140737488355328 := hs
 refine Qe Tryz.func152 rfl Tryz.call152 Tryz.ntmps152 (congrArg Array.toList Tryz.results152) (by simp) ?_
 rw [bw1, e1, e2]
 have hm : tx.size + 1 ≤ maxLen := by simp only [maxLen]; omega
 repeat (first | ((first | (with_reducible (first | refine Qa fun K E hK hE => ?_ | refine FunW.ret (FunW.call c1) ?_))); simp -implicitDefEqProofs only [Qg, Qh, OpW, QI, aop, undef, AS.ev, Qy, AV.QpF, ↓reduceIte, Qp, QC, QD, QL, QF, QK, XA, X6, zi5, Qmy, QoI, QoM, Qfl, QM, f2, f3, f5, f7, bw1, Xu, hm, hs', Nat.mul_one, seval]) | (with_reducible refine Qj ?_) | ((with_reducible refine hK _ ?_); clear hK))
 simp -implicitDefEqProofs only [Qcv, ↓reduceIte, Qqy, QE, Ql, Qr, QqC]
 exact .inr ⟨rfl, rfl⟩
theorem unPB : Tryz.prog.underlying 166 = some (.pointer 5) := by kernel_rfl
theorem szB : Tryz.prog.cellsOf 5 = 1 := by kernel_rfl
theorem QjD {ty : TypeId} {i j : Nat} (hij : i ≠ j) (tx : ByteArray) (h0 : 0 < tx.size) (hs : tx.size ≤ 140737488355328) : Chg2 Tryz.prog 107 [.ptr i 0 0] i (bw ty i j true tx) j (.grow 5 1 tx.size) (.v (.string tx)) (bw ty i j true tx) .gone := by
 intro h hi hj
 have f1 := fun x y => Ye h i x j y
 have f2 := fun x y => Yk (h := h) hi hij x y
 have f5 := fun x y z => QcF (h := h) (i := i) (j := j) x y z
 have f7 := fun x y => Qaw (h := h) (i := i) hj x y
 have hs' : tx.size ≤ 9223372036854775807 := by omega
 have g1 := QcB h0 j
 have g2 := fun x => QcD (P := Tryz.prog) unPB szB (T := tx) (f7 x (.grow 5 1 tx.size)) h0 hs'
 refine Qe Tryz.func107 rfl Tryz.call107 Tryz.ntmps107 (congrArg Array.toList Tryz.results107) (by simp) ?_
 rw [bw1]
 repeat (first | ((first | (with_reducible refine Qa fun K E hK hE => ?_) | (refine Qt (id := 1) [(0, 0), (1, 0), (2, 0), (3, 0), (4, 0), (5, 0), (6, 0), (7, 0), (8, 0), (9, 0), (10, 2), (11, 0)] mixed (by kernel_rfl) fun K hK => ?_)); simp -implicitDefEqProofs only [Qg, Qh, OpW, aop, undef, AS.ev, Qy, ↓reduceIte, Qp, QC, QD, aLen, goInt, Qmy, Qpo, Qfl, QM, f2, f5, g1, g2, Xu, seval]) | (with_reducible refine Qj ?_) | ((with_reducible refine hK _ ?_); clear hK))
 simp only [QE, Ql, Qr, upd, ↓reduceIte, Qqy, QqC]
 exact .inr ⟨rfl, rfl⟩
end Go.Proofs.YtniljpjjnmkoaaaGreatDoor.Ab
set_option maxRecDepth 4000
namespace Go.Proofs.YtniljpjjnmkoaaaGreatDoor.Ab
open Go.Proofs
abbrev mi : ByteArray := { data := #[45] }
def decZ (n : Int) : ByteArray := if n < 0 then mi ++ decN n.natAbs else decN n.toNat
theorem QlX (n : Int) : (⟨(Lib.itoa n).toArray⟩ : ByteArray) = decZ n := by
 unfold decZ Lib.itoa
 split
 ·apply ByteArray.ext; rfl
 ·rfl
theorem Qlb (n : Int) (h1 : -9223372036854775808 ≤ n) (h2 : n ≤ 9223372036854775807) : (decZ n).size ≤ 20 := by
 unfold decZ
 split
 ·rw [QG]
  have := QfZ (n := n.natAbs) (by omega)
  have : mi.size = 1 := rfl
  omega
 ·have := QfZ (n := n.toNat) (by omega)
  omega
theorem QmG (n : Int) : 0 < (decZ n).size := by
 unfold decZ
 split
 ·rw [QG]
  have : mi.size = 1 := rfl
  omega
 ·exact QmO _
theorem QjH (n : Int) (h0 : -9223372036854775808 ≤ n) (hn : n ≤ 9223372036854775807) (h : AH) (hG : Xj h) : Q4 Tryz.prog 99 [.i n] h fun o h' => o = .ret (.v (.string (decZ n))) ∧ h' = h :=
 QdG (vs := [.int .i64 n]) Tryz.call99 fun c hst hh => by
  have hv : c.w.var? Tryz.prog "internal/strconv.uint64pow10" = some tabC := HasG.var hst (hh ▸ hG) (by kernel_rfl)
  refine (Tryz.strconv_Itoa n h0 hn c.w hv).mono ?_
  rintro e w' ⟨rfl, k, os, rfl⟩
  refine ⟨_, rfl, ?_, fun c' => by rw [← QlX]; exact .v _⟩
  exact Qbe c.w k os
def ofB (s : ByteArray) : Int := if (s.toList == ({ data := #[43] } : ByteArray).toList) || (s.toList == ({ data := #[45] } : ByteArray).toList) then 1 else if (s.toList == ({ data := #[42] } : ByteArray).toList) || (s.toList == ({ data := #[47] } : ByteArray).toList) || (s.toList == ({ data := #[37] } : ByteArray).toList) then 2 else 0
def T.oper (t : T) : Int := if t.kind ≠ 2 ∨ t.args.length ≠ 2 then 0 else ofB t.name
theorem Qju (s : ByteArray) : Pure Tryz.prog 151 [.v (.string s)] (.i (ofB s)) := by
 intro h
 cases b1 : s.toList == ({ data := #[43] } : ByteArray).toList
 ·cases b2 : s.toList == ({ data := #[45] } : ByteArray).toList
  ·cases b3 : s.toList == ({ data := #[42] } : ByteArray).toList
   ·cases b4 : s.toList == ({ data := #[47] } : ByteArray).toList
    ·cases b5 : s.toList == ({ data := #[37] } : ByteArray).toList
     ·have e : ofB s = 0 := by rw [ofB, b1, b2, b3, b4, b5]; rfl
      refine Qe Tryz.func151 rfl Tryz.call151 Tryz.ntmps151 (congrArg Array.toList Tryz.results151) (by simp) ?_
      repeat (first | ((first | (with_reducible (first | refine Qa fun K E hK hE => ?_ | refine Qm fun K E hK hE => ?_))); simp -implicitDefEqProofs only [Qg, Qh, OpW, aop, undef, AS.ev, Qy, ↓reduceIte, aBin, b1, b2, b3, b4, b5, seval]) | (with_reducible (first | refine Qc fun K hK => ?_ | refine Qi ?_ | refine Qj ?_ | refine Qk ?_ | refine Qb ?_ | refine Qn ?_)) | ((with_reducible refine hK _ ?_); clear hK) | (refine Qf rfl ?_; simp only [↓reduceIte, Qqw]))
      simp only [QE, Ql, Qr, upd, ↓reduceIte, Qqy, QqC]; first | refine Qd (htake _ _) (.keep (.v _)) ⟨by rw [e], rfl⟩ | refine Qd List.take_length (.keep (.v _)) ⟨by rw [e], rfl⟩
     ·have e : ofB s = 2 := by rw [ofB, b1, b2, b3, b4, b5]; rfl
      refine Qe Tryz.func151 rfl Tryz.call151 Tryz.ntmps151 (congrArg Array.toList Tryz.results151) (by simp) ?_
      repeat (first | ((first | (with_reducible (first | refine Qa fun K E hK hE => ?_ | refine Qm fun K E hK hE => ?_))); simp -implicitDefEqProofs only [Qg, Qh, OpW, aop, undef, AS.ev, Qy, ↓reduceIte, aBin, b1, b2, b3, b4, b5, seval]) | (with_reducible (first | refine Qc fun K hK => ?_ | refine Qi ?_ | refine Qj ?_ | refine Qb ?_ | refine Qo ?_ | refine Qs ?_)) | ((with_reducible refine hK _ ?_); clear hK) | (refine Qf rfl ?_; simp only [↓reduceIte, Qqw]))
      simp only [QE, Ql, Qr, upd, ↓reduceIte, Qqy, QqC]; first | refine Qd (htake _ _) (.keep (.v _)) ⟨by rw [e], rfl⟩ | refine Qd List.take_length (.keep (.v _)) ⟨by rw [e], rfl⟩
    ·have e : ofB s = 2 := by rw [ofB, b1, b2, b3, b4]; rfl
     refine Qe Tryz.func151 rfl Tryz.call151 Tryz.ntmps151 (congrArg Array.toList Tryz.results151) (by simp) ?_
     repeat (first | ((first | (with_reducible (first | refine Qa fun K E hK hE => ?_ | refine Qm fun K E hK hE => ?_))); simp -implicitDefEqProofs only [Qg, Qh, OpW, aop, undef, AS.ev, Qy, ↓reduceIte, aBin, b1, b2, b3, b4, seval]) | (with_reducible (first | refine Qc fun K hK => ?_ | refine Qi ?_ | refine Qj ?_ | refine Qk ?_ | refine Qb ?_ | refine Qo ?_ | refine Qs ?_)) | ((with_reducible refine hK _ ?_); clear hK) | (refine Qf rfl ?_; simp only [↓reduceIte, Qqw]))
     simp only [QE, Ql, Qr, upd, ↓reduceIte, Qqy, QqC]; first | refine Qd (htake _ _) (.keep (.v _)) ⟨by rw [e], rfl⟩ | refine Qd List.take_length (.keep (.v _)) ⟨by rw [e], rfl⟩
   ·have e : ofB s = 2 := by rw [ofB, b1, b2, b3]; rfl
    refine Qe Tryz.func151 rfl Tryz.call151 Tryz.ntmps151 (congrArg Array.toList Tryz.results151) (by simp) ?_
    repeat (first | ((first | (with_reducible (first | refine Qa fun K E hK hE => ?_ | refine Qm fun K E hK hE => ?_))); simp -implicitDefEqProofs only [Qg, Qh, OpW, aop, undef, AS.ev, Qy, ↓reduceIte, aBin, b1, b2, b3, seval]) | (with_reducible (first | refine Qc fun K hK => ?_ | refine Qi ?_ | refine Qj ?_ | refine Qk ?_ | refine Qb ?_ | refine Qo ?_ | refine Qs ?_)) | ((with_reducible refine hK _ ?_); clear hK) | (refine Qf rfl ?_; simp only [↓reduceIte, Qqw]))
    simp only [QE, Ql, Qr, upd, ↓reduceIte, Qqy, QqC]; first | refine Qd (htake _ _) (.keep (.v _)) ⟨by rw [e], rfl⟩ | refine Qd List.take_length (.keep (.v _)) ⟨by rw [e], rfl⟩
  ·have e : ofB s = 1 := by rw [ofB, b1, b2]; rfl
   refine Qe Tryz.func151 rfl Tryz.call151 Tryz.ntmps151 (congrArg Array.toList Tryz.results151) (by simp) ?_
   repeat (first | ((first | (with_reducible (first | refine Qa fun K E hK hE => ?_ | refine Qm fun K E hK hE => ?_))); simp -implicitDefEqProofs only [Qg, Qh, OpW, aop, undef, AS.ev, Qy, ↓reduceIte, aBin, b1, b2, seval]) | (with_reducible (first | refine Qc fun K hK => ?_ | refine Qi ?_ | refine Qj ?_ | refine Qb ?_ | refine Qo ?_ | refine Qs ?_)) | ((with_reducible refine hK _ ?_); clear hK) | (refine Qf rfl ?_; simp only [↓reduceIte, Qqw]))
   simp only [QE, Ql, Qr, upd, ↓reduceIte, Qqy, QqC]; first | refine Qd (htake _ _) (.keep (.v _)) ⟨by rw [e], rfl⟩ | refine Qd List.take_length (.keep (.v _)) ⟨by rw [e], rfl⟩
 ·have e : ofB s = 1 := by rw [ofB, b1]; rfl
  refine Qe Tryz.func151 rfl Tryz.call151 Tryz.ntmps151 (congrArg Array.toList Tryz.results151) (by simp) ?_
  repeat (first | (((with_reducible refine Qa fun K E hK hE => ?_)); simp -implicitDefEqProofs only [Qg, Qh, OpW, aop, undef, AS.ev, Qy, ↓reduceIte, aBin, b1, seval]) | (with_reducible (first | refine Qc fun K hK => ?_ | refine Qi ?_ | refine Qj ?_ | refine Qk ?_ | refine Qb ?_ | refine Qo ?_ | refine Qs ?_)) | ((with_reducible refine hK _ ?_); clear hK) | (refine Qf rfl ?_; simp only [↓reduceIte]))
  simp only [QE, Ql, Qr, upd, ↓reduceIte, Qqy, QqC]; first | refine Qd (htake _ _) (.keep (.v _)) ⟨by rw [e], rfl⟩ | refine Qd List.take_length (.keep (.v _)) ⟨by rw [e], rfl⟩
theorem QaF (t : T) (hl : t.args.length ≤ maxLen) : Pure Tryz.prog 132 [t.av] (.i t.oper) := by
 intro h
 have c1 := Qju t.name
 have e1 : t.av = .agg [.i t.kind, .i t.int, .v (.string t.name), .sl 4 (avs t.args) none] := by cases t; rfl
 have m1 : ((t.args.length : Int) == 2) = decide (t.args.length = 2) := by
  rw [Bool.eq_iff_iff]; simp; omega
 by_cases hk : t.kind = 2
 ·by_cases hn : t.args.length = 2
  ·have e : t.oper = ofB t.name := by rw [T.oper, if_neg]; omega
   have m2 : ((t.args.length : Int) != 2) = false := by simp; omega
   refine Qe Tryz.func132 rfl Tryz.call132 Tryz.ntmps132 (congrArg Array.toList Tryz.results132) (by simp) ?_
   rw [e1]
   repeat (first | ((first | (with_reducible (first | refine Qa fun K E hK hE => ?_ | refine Qq c1 ?_))); simp -implicitDefEqProofs only [Qg, Qh, OpW, QI, aop, undef, AS.ev, Qy, AV.QpF, ↓reduceIte, Qp, QC, QD, aBin, aLen, goInt, ti3, ti9, ti29, un29, Q2, Xs, Xg, hk, m2, seval]) | (with_reducible (first | refine Qc fun K hK => ?_ | refine Qj ?_ | refine Qk ?_ | refine Qb ?_)) | ((with_reducible refine hK _ ?_); clear hK) | (refine Qf rfl ?_; simp only [↓reduceIte, Qqw]))
   simp only [QE, Ql, Qr, upd, ↓reduceIte, Qqy, QqC]; first | refine Qd (htake _ _) (.keep (.v _)) ⟨by rw [e], rfl⟩ | refine Qd List.take_length (.keep (.v _)) ⟨by rw [e], rfl⟩
  ·have e : t.oper = 0 := by rw [T.oper, if_pos (.inr hn)]
   have m2 : ((t.args.length : Int) != 2) = true := by simp; omega
   refine Qe Tryz.func132 rfl Tryz.call132 Tryz.ntmps132 (congrArg Array.toList Tryz.results132) (by simp) ?_
   rw [e1]
   repeat (first | (((with_reducible refine Qa fun K E hK hE => ?_)); simp -implicitDefEqProofs only [Qg, Qh, OpW, aop, undef, AS.ev, Qy, AV.QpF, ↓reduceIte, Qp, QC, QD, aBin, aLen, goInt, ti3, ti29, un29, Q2, Xg, hk, m2, seval]) | (with_reducible (first | refine Qc fun K hK => ?_ | refine Qj ?_ | refine Qo ?_)) | ((with_reducible refine hK _ ?_); clear hK) | (refine Qf rfl ?_; simp only [↓reduceIte]))
   simp only [QE, Ql, Qr, upd, ↓reduceIte, Qqy, QqC]; first | refine Qd (htake _ _) (.keep (.v _)) ⟨by rw [e], rfl⟩ | refine Qd List.take_length (.keep (.v _)) ⟨by rw [e], rfl⟩
 ·have e : t.oper = 0 := by rw [T.oper, if_pos (.inl hk)]
  have m2 : (t.kind != 2) = true := by simpa using hk
  refine Qe Tryz.func132 rfl Tryz.call132 Tryz.ntmps132 (congrArg Array.toList Tryz.results132) (by simp) ?_
  rw [e1]
  repeat (first | (((with_reducible refine Qa fun K E hK hE => ?_)); simp -implicitDefEqProofs only [Qg, Qh, OpW, aop, undef, AS.ev, Qy, AV.QpF, ↓reduceIte, Qp, QC, QD, aBin, ti3, Q2, m2, seval]) | (with_reducible (first | refine Qc fun K hK => ?_ | refine Qj ?_ | refine Qo ?_)) | ((with_reducible refine hK _ ?_); clear hK) | (refine Qf rfl ?_; simp only [↓reduceIte]))
  simp only [QE, Ql, Qr, upd, ↓reduceIte, Qqy, QqC]; first | refine Qd (htake _ _) (.keep (.v _)) ⟨by rw [e], rfl⟩ | refine Qd List.take_length (.keep (.v _)) ⟨by rw [e], rfl⟩
end Go.Proofs.YtniljpjjnmkoaaaGreatDoor.Ab
